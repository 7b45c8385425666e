import Derived.Test.YtdkmgkeaebcobaaTT1
namespace Go.Proofs.Ytdkmgkeaebcobaa
open Go
set_option linter.unusedVariables false
/- spec.isIn -/
def spec_isIn_L1 (x1 : List Int) (i2 : Int) : Nat → Int → Option ((Unit) ⊕ (Unit))
| 0, _ => none
| n + 1, i45 =>
 iteO (decide (i45 < ((x1.length : Nat) : Int)))
 (guardO (0 ≤ i45 ∧ i45 < ((x1.length : Nat) : Int)) <|
 iteO (decide ((x1.getD i45.toNat 0) = i2))
 (some (.inl ()))
 (spec_isIn_L1 x1 i2 n (w64 (i45 + 1))))
 (some (.inr ()))

theorem spec_isIn_L1_ok (w : World) (X : Nat → Prop) (θ : List Loc) (x1 : List Int) (i2 : Int) (v : (Unit) ⊕ (Unit)) : ∀ (n : Nat) (i45 : Int), spec_isIn_L1 x1 i2 n i45 = some v → WL EE ⟨w, X, θ, 18, 1⟩ (subC [1, 0, 1, 4, 4] (bodyC Try.f49)) (fun (e : Exit) (s : St) => (match v with | (.inl _) => e = .ret ∧ s = ⟨[(4, B true)], [.row .int x1 false]⟩ | (.inr _) => e = .exit 0 ∧ s = ⟨[], [.row .int x1 false]⟩ : Prop)) ⟨[(0, .one (.e (.sl 0 0 x1.length))), (1, I i2), (5, I i45)], [.row .int x1 false]⟩ := by
  intro n
  induction n with
  | zero => intro _ h; exact none_e h
  | succ n ih =>
    intro i45 h
    rw [spec_isIn_L1] at h
    refine WL_round ?_
    refine W_seq ?_
    refine W_seq ?_
    refine W_region ?_
    refine WO_step 4 [0] [0, 1, 5, 9] (True ∧ (True ∧ True)) ⟨[(0, .one (.e (.sl 0 0 x1.length))), (1, I i2), (5, I i45), (9, B (decide (i45 < ((x1.length : Nat) : Int))))], [.row .int x1 false]⟩ (by kernel_rfl) ⟨trivial, trivial, trivial⟩ ?_
    refine WO_nil rfl ?_
    refine thenS_n ?_
    refine iteO_e h (fun hb57 h => W_true rfl hb57 ?_) (fun hb57 h => W_false rfl hb57 ?_)
    · refine W_sub [0] [0, 1, 5] (st' := ⟨[(0, .one (.e (.sl 0 0 x1.length))), (1, I i2), (5, I i45)], [.row .int x1 false]⟩) (by kernel_rfl) ?_
      refine W_skip ?_
      refine thenS_n ?_
      refine W_seq ?_
      refine W_block ?_
      refine W_seq ?_
      refine W_region ?_
      refine guardO_e h (fun hg61 h => ?_)
      refine WO_step 6 [0] [0, 1, 5, 17] ((0 ≤ i45 ∧ i45 < ((x1.length : Nat) : Int)) ∧ (True ∧ (True ∧ True))) ⟨[(0, .one (.e (.sl 0 0 x1.length))), (1, I i2), (5, I i45), (17, B (decide ((x1.getD i45.toNat 0) = i2)))], [.row .int x1 false]⟩ (by kernel_rfl) ⟨hg61, trivial, trivial, trivial⟩ ?_
      refine WO_nil rfl ?_
      refine thenS_n ?_
      refine iteO_e h (fun hb63 h => W_true rfl hb63 ?_) (fun hb63 h => W_false rfl hb63 ?_)
      · refine W_seq ?_
        refine W_region ?_
        refine WO_step 1 [0] [4] True ⟨[(4, B true)], [.row .int x1 false]⟩ (by kernel_rfl) trivial ?_
        refine WO_nil rfl ?_
        refine thenS_n ?_
        refine W_ret ?_
        refine blockS_r ?_
        refine thenS_r ?_
        refine thenS_r ?_
        cases h
        exact And.intro rfl rfl
      · refine W_sub [0] [0, 1, 5] (st' := ⟨[(0, .one (.e (.sl 0 0 x1.length))), (1, I i2), (5, I i45)], [.row .int x1 false]⟩) (by kernel_rfl) ?_
        refine W_skip ?_
        refine blockS_n ?_
        refine thenS_n ?_
        refine W_region ?_
        refine WO_step 3 [0] [0, 1, 5] (True ∧ True) ⟨[(0, .one (.e (.sl 0 0 x1.length))), (1, I i2), (5, I (w64 (i45 + 1)))], [.row .int x1 false]⟩ (by kernel_rfl) ⟨trivial, trivial⟩ ?_
        refine WO_nil rfl ?_
        refine thenS_n ?_
        exact ih _ h
    · refine W_sub [0] [] (st' := ⟨[], [.row .int x1 false]⟩) (by kernel_rfl) ?_
      refine W_exit ?_
      refine thenS_e ?_
      refine thenS_e ?_
      cases h
      exact And.intro rfl rfl

def spec_isIn (n : Nat) (x1 : List Int) (i2 : Int) : Option (Bool) :=
 bindO (spec_isIn_L1 x1 i2 n 0) fun v64 =>
 match v64 with
 | (.inl _) => (some true)
 | (.inr _) => (some false)


theorem spec_isIn_ok (n : Nat) (x1 : List Int) (i2 : Int) (b33 : Bool) (h : spec_isIn n x1 i2 = some b33) : FOk EE 49 [.one (.e (.sl 0 0 x1.length)), I i2] [.row .int x1 false] (B b33) [.row .int x1 false] := by
  unfold spec_isIn at h
  refine FOk_of_W 18 1 Try.func49 rfl rfl (Nat.le_of_ble_eq_true rfl) rfl (fun w X θ => ?_)
  refine W_seq ?_
  refine W_region ?_
  refine WO_step 1 [0] [0, 1] True ⟨[(0, .one (.e (.sl 0 0 x1.length))), (1, I i2)], [.row .int x1 false]⟩ (by kernel_rfl) trivial ?_
  refine WO_nil rfl ?_
  refine thenS_n ?_
  refine W_seq ?_
  refine W_seq ?_
  refine W_region ?_
  refine WO_step 1 [0] [0, 1, 5] True ⟨[(0, .one (.e (.sl 0 0 x1.length))), (1, I i2), (5, I 0)], [.row .int x1 false]⟩ (by kernel_rfl) trivial ?_
  refine WO_nil rfl ?_
  refine thenS_n ?_
  refine W_block ?_
  refine W_loop ?_
  refine bindO_e h (fun v64 hv64 h => ?_)
  refine WL_cut (spec_isIn_L1_ok w X θ x1 i2 v64 n 0 hv64) ?_
  rcases v64 with _ | _
  · rintro _ _ ⟨rfl, rfl⟩
    refine blockS_r ?_
    refine thenS_r ?_
    cases h
    exact ⟨[0], True, by kernel_rfl, trivial⟩
  · rintro _ _ ⟨rfl, rfl⟩
    refine blockS_y ?_
    refine thenS_n ?_
    refine W_seq ?_
    refine W_region ?_
    refine WO_step 1 [0] [4] True ⟨[(4, B false)], [.row .int x1 false]⟩ (by kernel_rfl) trivial ?_
    refine WO_nil rfl ?_
    refine thenS_n ?_
    refine W_ret ?_
    cases h
    exact ⟨[0], True, by kernel_rfl, trivial⟩

/- spec.leave -/
def spec_leave_L1 (x1 : List Int) (i2 : Int) : Nat → (List Int) → Int → Option ((List Int))
| 0, _, _ => none
| n + 1, x78, i79 =>
 iteO (decide (i79 < ((x1.length : Nat) : Int)))
 (guardO (0 ≤ i79 ∧ i79 < ((x1.length : Nat) : Int)) <|
 bindO (iteO (!decide ((x1.getD i79.toNat 0) = i2))
 (guardO (0 ≤ i79 ∧ i79 < ((x1.length : Nat) : Int)) <|
 guardO (0 = 0 ∧ x78.length = x78.length ∧ x78.length + (([(x1.getD i79.toNat 0)].drop 0).take ([(x1.getD i79.toNat 0)].length)).length ≤ 1099511627776) <|
 some (x78 ++ (([(x1.getD i79.toNat 0)].drop 0).take ([(x1.getD i79.toNat 0)].length))))
 (some x78)) fun x110 =>
 spec_leave_L1 x1 i2 n x110 (w64 (i79 + 1)))
 (some x78)

theorem spec_leave_L1_ok (w : World) (X : Nat → Prop) (θ : List Loc) (x1 : List Int) (i2 : Int) (x96 : (List Int)) : ∀ (n : Nat) (x78 : List Int) (i79 : Int), spec_leave_L1 x1 i2 n x78 i79 = some x96 → WL EE ⟨w, X, θ, 28, 1⟩ (subC [1, 1, 0, 1, 4, 4] (bodyC Try.f50)) (fun (e : Exit) (s : St) => e = .exit 0 ∧ s = ⟨[(5, .one (.e (.sl 1 0 x96.length)))], [.row .int x1 false, .row .int x96 true]⟩) ⟨[(0, .one (.e (.sl 0 0 x1.length))), (1, I i2), (5, .one (.e (.sl 1 0 x78.length))), (6, I i79)], [.row .int x1 false, .row .int x78 true]⟩ := by
  intro n
  induction n with
  | zero => intro _ _ h; exact none_e h
  | succ n ih =>
    intro x78 i79 h
    rw [spec_leave_L1] at h
    refine WL_round ?_
    refine W_seq ?_
    refine W_seq ?_
    refine W_region ?_
    refine WO_step 4 [0, 1] [0, 1, 5, 6, 11] (True ∧ (True ∧ True)) ⟨[(0, .one (.e (.sl 0 0 x1.length))), (1, I i2), (5, .one (.e (.sl 1 0 x78.length))), (6, I i79), (11, B (decide (i79 < ((x1.length : Nat) : Int))))], [.row .int x1 false, .row .int x78 true]⟩ (by kernel_rfl) ⟨trivial, trivial, trivial⟩ ?_
    refine WO_nil rfl ?_
    refine thenS_n ?_
    refine iteO_e h (fun hb99 h => W_true rfl hb99 ?_) (fun hb99 h => W_false rfl hb99 ?_)
    · refine W_sub [0, 1] [0, 1, 5, 6] (st' := ⟨[(0, .one (.e (.sl 0 0 x1.length))), (1, I i2), (5, .one (.e (.sl 1 0 x78.length))), (6, I i79)], [.row .int x1 false, .row .int x78 true]⟩) (by kernel_rfl) ?_
      refine W_skip ?_
      refine thenS_n ?_
      refine W_seq ?_
      refine W_block ?_
      refine W_seq ?_
      refine W_region ?_
      refine guardO_e h (fun hg106 h => ?_)
      refine WO_step 6 [0, 1] [0, 1, 5, 6, 19] ((0 ≤ i79 ∧ i79 < ((x1.length : Nat) : Int)) ∧ (True ∧ (True ∧ True))) ⟨[(0, .one (.e (.sl 0 0 x1.length))), (1, I i2), (5, .one (.e (.sl 1 0 x78.length))), (6, I i79), (19, B (!decide ((x1.getD i79.toNat 0) = i2)))], [.row .int x1 false, .row .int x78 true]⟩ (by kernel_rfl) ⟨hg106, trivial, trivial, trivial⟩ ?_
      refine WO_nil rfl ?_
      refine thenS_n ?_
      refine bindO_e h (fun x110 hx110 h => ?_)
      refine W_cut (Q' := fun (e : Exit) (s : St) => e = .normal ∧ s = ⟨[(0, .one (.e (.sl 0 0 x1.length))), (1, I i2), (5, .one (.e (.sl 1 0 x110.length))), (6, I i79)], [.row .int x1 false, .row .int x110 true]⟩) ?_ ?_
      · refine iteO_e hx110 (fun hb112 hx110 => W_true rfl hb112 ?_) (fun hb112 hx110 => W_false rfl hb112 ?_)
        · refine W_region ?_
          refine guardO_e hx110 (fun hg113 hx110 => ?_)
          refine guardO_e hx110 (fun hg114 hx110 => ?_)
          refine WO_step 8 [0, 3] [0, 1, 5, 6] ((0 ≤ i79 ∧ i79 < ((x1.length : Nat) : Int)) ∧ (True ∧ ((0 = 0 ∧ x78.length = x78.length ∧ x78.length + (([(x1.getD i79.toNat 0)].drop 0).take ([(x1.getD i79.toNat 0)].length)).length ≤ 1099511627776) ∧ True))) ⟨[(0, .one (.e (.sl 0 0 x1.length))), (1, I i2), (5, .one (.e (.sl 1 0 ((x78 ++ (([(x1.getD i79.toNat 0)].drop 0).take ([(x1.getD i79.toNat 0)].length))).length)))), (6, I i79)], [.row .int x1 false, .row .int (x78 ++ (([(x1.getD i79.toNat 0)].drop 0).take ([(x1.getD i79.toNat 0)].length))) true]⟩ (by kernel_rfl) ⟨hg113, trivial, hg114, trivial⟩ ?_
          refine WO_nil rfl ?_
          cases hx110
          exact And.intro rfl rfl
        · refine W_sub [0, 1] [0, 1, 5, 6] (st' := ⟨[(0, .one (.e (.sl 0 0 x1.length))), (1, I i2), (5, .one (.e (.sl 1 0 x78.length))), (6, I i79)], [.row .int x1 false, .row .int x78 true]⟩) (by kernel_rfl) ?_
          refine W_skip ?_
          cases hx110
          exact And.intro rfl rfl
      · rintro _ _ ⟨rfl, rfl⟩
        refine blockS_n ?_
        refine thenS_n ?_
        refine W_region ?_
        refine WO_step 3 [0, 1] [0, 1, 5, 6] (True ∧ True) ⟨[(0, .one (.e (.sl 0 0 x1.length))), (1, I i2), (5, .one (.e (.sl 1 0 x110.length))), (6, I (w64 (i79 + 1)))], [.row .int x1 false, .row .int x110 true]⟩ (by kernel_rfl) ⟨trivial, trivial⟩ ?_
        refine WO_nil rfl ?_
        refine thenS_n ?_
        exact ih _ _ h
    · refine W_sub [0, 1] [5] (st' := ⟨[(5, .one (.e (.sl 1 0 x78.length)))], [.row .int x1 false, .row .int x78 true]⟩) (by kernel_rfl) ?_
      refine W_exit ?_
      refine thenS_e ?_
      refine thenS_e ?_
      cases h
      exact And.intro rfl rfl

def spec_leave (n : Nat) (x1 : List Int) (i2 : Int) : Option ((List Int)) :=
 bindO (spec_leave_L1 x1 i2 n ([] : List Int) 0) fun x96 =>
 some x96

theorem spec_leave_ok (n : Nat) (x1 : List Int) (i2 : Int) (x57 : List Int) (h : spec_leave n x1 i2 = some x57) : FOk EE 50 [.one (.e (.sl 0 0 x1.length)), I i2] [.row .int x1 false] (.one (.e (.sl 1 0 x57.length))) [.row .int x1 false, .row .int x57 true] := by
  unfold spec_leave at h
  refine FOk_of_W 28 1 Try.func50 rfl rfl (Nat.le_of_ble_eq_true rfl) rfl (fun w X θ => ?_)
  refine W_seq ?_
  refine W_region ?_
  refine WO_step 1 [0] [0, 1] True ⟨[(0, .one (.e (.sl 0 0 x1.length))), (1, I i2)], [.row .int x1 false]⟩ (by kernel_rfl) trivial ?_
  refine WO_nil rfl ?_
  refine thenS_n ?_
  refine W_seq ?_
  refine W_region ?_
  refine WO_step 2 [0, 1] [0, 1, 5] True ⟨[(0, .one (.e (.sl 0 0 x1.length))), (1, I i2), (5, .one (.e (.sl 1 0 (([] : List Int).length))))], [.row .int x1 false, .row .int ([] : List Int) true]⟩ (by kernel_rfl) trivial ?_
  refine WO_nil rfl ?_
  refine thenS_n ?_
  refine W_seq ?_
  refine W_seq ?_
  refine W_region ?_
  refine WO_step 1 [0, 1] [0, 1, 5, 6] True ⟨[(0, .one (.e (.sl 0 0 x1.length))), (1, I i2), (5, .one (.e (.sl 1 0 (([] : List Int).length)))), (6, I 0)], [.row .int x1 false, .row .int ([] : List Int) true]⟩ (by kernel_rfl) trivial ?_
  refine WO_nil rfl ?_
  refine thenS_n ?_
  refine W_block ?_
  refine W_loop ?_
  refine bindO_e h (fun x96 hx96 h => ?_)
  refine WL_cut (spec_leave_L1_ok w X θ x1 i2 x96 n ([] : List Int) 0 hx96) ?_
  rintro _ _ ⟨rfl, rfl⟩
  refine blockS_y ?_
  refine thenS_n ?_
  refine W_seq ?_
  refine W_region ?_
  refine WO_step 2 [0, 1] [4] True ⟨[(4, .one (.e (.sl 1 0 x96.length)))], [.row .int x1 false, .row .int x96 true]⟩ (by kernel_rfl) trivial ?_
  refine WO_nil rfl ?_
  refine thenS_n ?_
  refine W_ret ?_
  cases h
  exact ⟨[0, 1], True, by kernel_rfl, trivial⟩

/- spec.ended -/
def spec_ended_L1 (x1 : List Rcd) (i3 : Int) : Nat → Int → Option ((Unit) ⊕ (Unit))
| 0, _ => none
| n + 1, i94 =>
 iteO (decide (i94 < ((x1.length : Nat) : Int)))
 (guardO (0 ≤ i94 ∧ i94 < ((x1.length : Nat) : Int)) <|
 bindO (iteO (decide (((x1.getD i94.toNat drcd).who) = i3))
 (guardO (0 ≤ i94 ∧ i94 < ((x1.length : Nat) : Int)) <|
 some ((x1.getD i94.toNat drcd).fin))
 (some false)) fun b131 =>
 iteO b131
 (some (.inl ()))
 (spec_ended_L1 x1 i3 n (w64 (i94 + 1))))
 (some (.inr ()))

theorem spec_ended_L1_ok (w : World) (X : Nat → Prop) (θ : List Loc) (x1 : List Rcd) (i3 : Int) (v : (Unit) ⊕ (Unit)) : ∀ (n : Nat) (i94 : Int), spec_ended_L1 x1 i3 n i94 = some v → WL EE ⟨w, X, θ, 29, 1⟩ (subC [1, 0, 1, 4, 4] (bodyC Try.f44)) (fun (e : Exit) (s : St) => (match v with | (.inl _) => e = .ret ∧ s = ⟨[(6, B true)], [.row .rcd x1 false]⟩ | (.inr _) => e = .exit 0 ∧ s = ⟨[], [.row .rcd x1 false]⟩ : Prop)) ⟨[(0, .one (.e (.sl 0 0 x1.length))), (2, I i3), (7, I i94)], [.row .rcd x1 false]⟩ := by
  intro n
  induction n with
  | zero => intro _ h; exact none_e h
  | succ n ih =>
    intro i94 h
    rw [spec_ended_L1] at h
    refine WL_round ?_
    refine W_seq ?_
    refine W_seq ?_
    refine W_region ?_
    refine WO_step 4 [0] [0, 2, 7, 12] (True ∧ (True ∧ True)) ⟨[(0, .one (.e (.sl 0 0 x1.length))), (2, I i3), (7, I i94), (12, B (decide (i94 < ((x1.length : Nat) : Int))))], [.row .rcd x1 false]⟩ (by kernel_rfl) ⟨trivial, trivial, trivial⟩ ?_
    refine WO_nil rfl ?_
    refine thenS_n ?_
    refine iteO_e h (fun hb118 h => W_true rfl hb118 ?_) (fun hb118 h => W_false rfl hb118 ?_)
    · refine W_sub [0] [0, 2, 7] (st' := ⟨[(0, .one (.e (.sl 0 0 x1.length))), (2, I i3), (7, I i94)], [.row .rcd x1 false]⟩) (by kernel_rfl) ?_
      refine W_skip ?_
      refine thenS_n ?_
      refine W_seq ?_
      refine W_block ?_
      refine W_seq ?_
      refine W_region ?_
      refine guardO_e h (fun hg128 h => ?_)
      refine WO_step 8 [0] [0, 2, 7, 22] ((0 ≤ i94 ∧ i94 < ((x1.length : Nat) : Int)) ∧ (True ∧ (True ∧ True))) ⟨[(0, .one (.e (.sl 0 0 x1.length))), (2, I i3), (7, I i94), (22, B (decide (((x1.getD i94.toNat drcd).who) = i3)))], [.row .rcd x1 false]⟩ (by kernel_rfl) ⟨hg128, trivial, trivial, trivial⟩ ?_
      refine bindO_e h (fun b131 hv132 h => ?_)
      refine WO_thru ⟨[(0, .one (.e (.sl 0 0 x1.length))), (2, I i3), (7, I i94), (28, B b131)], [.row .rcd x1 false]⟩ ?_ ?_
      · refine iteO_e hv132 (fun hb133 hv132 => WO_known 22 true rfl hb133 ?_) (fun hb133 hv132 => WO_known 22 false rfl hb133 ?_)
        · refine guardO_e hv132 (fun hg134 hv132 => ?_)
          refine WO_step 6 [0] [0, 2, 7, 28] ((0 ≤ i94 ∧ i94 < ((x1.length : Nat) : Int)) ∧ (True ∧ True)) ⟨[(0, .one (.e (.sl 0 0 x1.length))), (2, I i3), (7, I i94), (28, B ((x1.getD i94.toNat drcd).fin))], [.row .rcd x1 false]⟩ (by kernel_rfl) ⟨hg134, trivial, trivial⟩ ?_
          cases hv132
          exact WO_nil rfl ⟨rfl, rfl⟩
        · refine WO_step 6 [0] [0, 2, 7, 28] True ⟨[(0, .one (.e (.sl 0 0 x1.length))), (2, I i3), (7, I i94), (28, B false)], [.row .rcd x1 false]⟩ (by kernel_rfl) trivial ?_
          cases hv132
          exact WO_nil rfl ⟨rfl, rfl⟩
      · refine thenS_n ?_
        refine iteO_e h (fun hb136 h => W_true rfl hb136 ?_) (fun hb136 h => W_false rfl hb136 ?_)
        · refine W_seq ?_
          refine W_region ?_
          refine WO_step 1 [0] [6] True ⟨[(6, B true)], [.row .rcd x1 false]⟩ (by kernel_rfl) trivial ?_
          refine WO_nil rfl ?_
          refine thenS_n ?_
          refine W_ret ?_
          refine blockS_r ?_
          refine thenS_r ?_
          refine thenS_r ?_
          cases h
          exact And.intro rfl rfl
        · refine W_sub [0] [0, 2, 7] (st' := ⟨[(0, .one (.e (.sl 0 0 x1.length))), (2, I i3), (7, I i94)], [.row .rcd x1 false]⟩) (by kernel_rfl) ?_
          refine W_skip ?_
          refine blockS_n ?_
          refine thenS_n ?_
          refine W_region ?_
          refine WO_step 3 [0] [0, 2, 7] (True ∧ True) ⟨[(0, .one (.e (.sl 0 0 x1.length))), (2, I i3), (7, I (w64 (i94 + 1)))], [.row .rcd x1 false]⟩ (by kernel_rfl) ⟨trivial, trivial⟩ ?_
          refine WO_nil rfl ?_
          refine thenS_n ?_
          exact ih _ h
    · refine W_sub [0] [] (st' := ⟨[], [.row .rcd x1 false]⟩) (by kernel_rfl) ?_
      refine W_exit ?_
      refine thenS_e ?_
      refine thenS_e ?_
      cases h
      exact And.intro rfl rfl

def spec_ended (n : Nat) (x1 : List Rcd) (i2 : Int) (i3 : Int) : Option (Bool) :=
 bindO (spec_ended_L1 x1 i3 n i2) fun v137 =>
 match v137 with
 | (.inl _) => (some true)
 | (.inr _) => (some false)


theorem spec_ended_ok (n : Nat) (x1 : List Rcd) (i2 : Int) (i3 : Int) (b70 : Bool) (h : spec_ended n x1 i2 i3 = some b70) : FOk EE 44 [.one (.e (.sl 0 0 x1.length)), I i2, I i3] [.row .rcd x1 false] (B b70) [.row .rcd x1 false] := by
  unfold spec_ended at h
  refine FOk_of_W 29 1 Try.func44 rfl rfl (Nat.le_of_ble_eq_true rfl) rfl (fun w X θ => ?_)
  refine W_seq ?_
  refine W_region ?_
  refine WO_step 1 [0] [0, 1, 2] True ⟨[(0, .one (.e (.sl 0 0 x1.length))), (1, I i2), (2, I i3)], [.row .rcd x1 false]⟩ (by kernel_rfl) trivial ?_
  refine WO_nil rfl ?_
  refine thenS_n ?_
  refine W_seq ?_
  refine W_seq ?_
  refine W_region ?_
  refine WO_step 2 [0] [0, 2, 7] True ⟨[(0, .one (.e (.sl 0 0 x1.length))), (2, I i3), (7, I i2)], [.row .rcd x1 false]⟩ (by kernel_rfl) trivial ?_
  refine WO_nil rfl ?_
  refine thenS_n ?_
  refine W_block ?_
  refine W_loop ?_
  refine bindO_e h (fun v137 hv137 h => ?_)
  refine WL_cut (spec_ended_L1_ok w X θ x1 i3 v137 n i2 hv137) ?_
  rcases v137 with _ | _
  · rintro _ _ ⟨rfl, rfl⟩
    refine blockS_r ?_
    refine thenS_r ?_
    cases h
    exact ⟨[0], True, by kernel_rfl, trivial⟩
  · rintro _ _ ⟨rfl, rfl⟩
    refine blockS_y ?_
    refine thenS_n ?_
    refine W_seq ?_
    refine W_region ?_
    refine WO_step 1 [0] [6] True ⟨[(6, B false)], [.row .rcd x1 false]⟩ (by kernel_rfl) trivial ?_
    refine WO_nil rfl ?_
    refine thenS_n ?_
    refine W_ret ?_
    cases h
    exact ⟨[0], True, by kernel_rfl, trivial⟩

/- spec.replaced -/
def spec_replaced_L1 (x1 : List Rcd) (i2 : Int) : Nat → Int → Option ((Unit) ⊕ (Unit))
| 0, _ => none
| n + 1, i117 =>
 iteO (decide (i117 < ((x1.length : Nat) : Int)))
 (guardO (0 ≤ i117 ∧ i117 < ((x1.length : Nat) : Int)) <|
 bindO (iteO (!(x1.getD i117.toNat drcd).fin)
 (guardO (0 ≤ i117 ∧ i117 < ((x1.length : Nat) : Int)) <|
 guardO (0 ≤ i2 ∧ i2 < ((x1.length : Nat) : Int)) <|
 iteO (decide (((x1.getD i117.toNat drcd).node) = ((x1.getD i2.toNat drcd).node)))
 (guardO (0 ≤ i117 ∧ i117 < ((x1.length : Nat) : Int)) <|
 bindO (spec_ended n x1 (w64 (i117 + 1)) ((x1.getD i117.toNat drcd).who)) fun b166 =>
 some b166)
 (some false))
 (some false)) fun b168 =>
 iteO b168
 (some (.inl ()))
 (spec_replaced_L1 x1 i2 n (w64 (i117 + 1))))
 (some (.inr ()))

theorem spec_replaced_L1_ok (w : World) (X : Nat → Prop) (θ : List Loc) (x1 : List Rcd) (i2 : Int) (v : (Unit) ⊕ (Unit)) : ∀ (n : Nat) (i117 : Int), spec_replaced_L1 x1 i2 n i117 = some v → WL EE ⟨w, X, θ, 44, 1⟩ (subC [1, 0, 1, 4, 4] (bodyC Try.f51)) (fun (e : Exit) (s : St) => (match v with | (.inl _) => e = .ret ∧ s = ⟨[(4, B true)], [.row .rcd x1 false]⟩ | (.inr _) => e = .exit 0 ∧ s = ⟨[], [.row .rcd x1 false]⟩ : Prop)) ⟨[(0, .one (.e (.sl 0 0 x1.length))), (1, I i2), (5, I i117)], [.row .rcd x1 false]⟩ := by
  intro n
  induction n with
  | zero => intro _ h; exact none_e h
  | succ n ih =>
    intro i117 h
    rw [spec_replaced_L1] at h
    refine WL_round ?_
    refine W_seq ?_
    refine W_seq ?_
    refine W_region ?_
    refine WO_step 4 [0] [0, 1, 5, 11] (True ∧ (True ∧ True)) ⟨[(0, .one (.e (.sl 0 0 x1.length))), (1, I i2), (5, I i117), (11, B (decide (i117 < ((x1.length : Nat) : Int))))], [.row .rcd x1 false]⟩ (by kernel_rfl) ⟨trivial, trivial, trivial⟩ ?_
    refine WO_nil rfl ?_
    refine thenS_n ?_
    refine iteO_e h (fun hb147 h => W_true rfl hb147 ?_) (fun hb147 h => W_false rfl hb147 ?_)
    · refine W_sub [0] [0, 1, 5] (st' := ⟨[(0, .one (.e (.sl 0 0 x1.length))), (1, I i2), (5, I i117)], [.row .rcd x1 false]⟩) (by kernel_rfl) ?_
      refine W_skip ?_
      refine thenS_n ?_
      refine W_seq ?_
      refine W_block ?_
      refine W_seq ?_
      refine guardO_e h (fun hg160 h => ?_)
      refine bindO_e h (fun b168 hv169 h => ?_)
      refine W_cut (Q' := fun (e : Exit) (s : St) => e = .normal ∧ s = ⟨[(0, .one (.e (.sl 0 0 x1.length))), (1, I i2), (5, I i117), (43, B b168)], [.row .rcd x1 false]⟩) ?_ ?_
      · refine iteO_e hv169 (fun hb161 hv169 => ?_) (fun hb161 hv169 => ?_)
        · refine guardO_e hv169 (fun hg162 hv169 => ?_)
          refine guardO_e hv169 (fun hg163 hv169 => ?_)
          refine iteO_e hv169 (fun hb164 hv169 => ?_) (fun hb164 hv169 => ?_)
          · refine guardO_e hv169 (fun hg165 hv169 => ?_)
            refine bindO_e hv169 (fun b166 hc167 hv169 => ?_)
            refine W_draw [] false (by kernel_rfl) (by kernel_rfl) ?_
            refine WD_takeK [0, 1, 2, 3, 4, 5, 6] [0, 1, 5, 20] [0, 1, 5, 20] (φ := ((0 ≤ i117 ∧ i117 < ((x1.length : Nat) : Int)) ∧ (0 ≤ i117 ∧ i117 < ((x1.length : Nat) : Int)) ∧ (True ∧ True ∧ True))) (ls' := #[true, true, true, true, true, true, true, false, false, false, false, false, false, false, false, false, false, false, false, false, false, false, false, false, false, false, false, false, false, false]) (Ts' := [(0, .one (.e (.sl 0 0 x1.length))), (1, I i2), (5, I i117), (20, B (!(x1.getD i117.toNat drcd).fin))]) (st' := ⟨[(0, .one (.e (.sl 0 0 x1.length))), (1, I i2), (5, I i117), (20, B (!(x1.getD i117.toNat drcd).fin))], [.row .rcd x1 false]⟩) (n2 := 23) (by kernel_rfl) ⟨hg160, hg160, trivial, trivial, trivial⟩ rfl ?_
            refine WD_known 20 true rfl rfl hb161 ?_
            refine WD_takeK [7, 8, 9, 10, 11, 12, 13, 14, 15, 16, 17, 18, 19] [0, 1, 5, 33] [0, 1, 5, 33] (φ := ((0 ≤ i117 ∧ i117 < ((x1.length : Nat) : Int)) ∧ (0 ≤ i117 ∧ i117 < ((x1.length : Nat) : Int)) ∧ (True ∧ True ∧ ((0 ≤ i2 ∧ i2 < ((x1.length : Nat) : Int)) ∧ (0 ≤ i2 ∧ i2 < ((x1.length : Nat) : Int)) ∧ (True ∧ True ∧ (True ∧ True ∧ True)))))) (ls' := #[true, true, true, true, true, true, true, true, true, true, true, true, true, true, true, true, true, true, true, true, false, false, false, false, false, false, false, false, false, false]) (Ts' := [(0, .one (.e (.sl 0 0 x1.length))), (1, I i2), (5, I i117), (33, B (decide (((x1.getD i117.toNat drcd).node) = ((x1.getD i2.toNat drcd).node))))]) (st' := ⟨[(0, .one (.e (.sl 0 0 x1.length))), (1, I i2), (5, I i117), (33, B (decide (((x1.getD i117.toNat drcd).node) = ((x1.getD i2.toNat drcd).node))))], [.row .rcd x1 false]⟩) (n2 := 10) (by kernel_rfl) ⟨hg162, hg162, trivial, trivial, hg163, hg163, trivial, trivial, trivial, trivial, trivial⟩ rfl ?_
            refine WD_known 33 true rfl rfl hb164 ?_
            refine WD_takeK [20, 21, 22, 23, 24, 25, 26, 27] [0, 1, 5, 33, 34, 36, 41] [0, 1, 5, 33, 34, 36, 41] (φ := (True ∧ True ∧ ((0 ≤ i117 ∧ i117 < ((x1.length : Nat) : Int)) ∧ (0 ≤ i117 ∧ i117 < ((x1.length : Nat) : Int)) ∧ (True ∧ True ∧ True)))) (ls' := #[true, true, true, true, true, true, true, true, true, true, true, true, true, true, true, true, true, true, true, true, true, true, true, true, true, true, true, true, false, false]) (Ts' := [(0, .one (.e (.sl 0 0 x1.length))), (1, I i2), (5, I i117), (33, B true), (34, .one (.e (.sl 0 0 x1.length))), (36, I (w64 (i117 + 1))), (41, I ((x1.getD i117.toNat drcd).who))]) (st' := ⟨[(0, .one (.e (.sl 0 0 x1.length))), (1, I i2), (5, I i117), (33, B true), (34, .one (.e (.sl 0 0 x1.length))), (36, I (w64 (i117 + 1))), (41, I ((x1.getD i117.toNat drcd).who))], [.row .rcd x1 false]⟩) (n2 := 2) (by kernel_rfl) ⟨trivial, trivial, hg165, hg165, trivial, trivial, trivial⟩ rfl ?_
            refine WD_all [28] (n := 1) (by kernel_rfl) rfl ?_
            refine WM_call [.ro 0] Try.f44 rfl rfl (by kernel_rfl) rfl rfl (by kernel_rfl) (spec_ended_ok n x1 (w64 (i117 + 1)) ((x1.getD i117.toNat drcd).who) b166 hc167) (And.intro (And.intro rfl rfl) (trivial)) rfl (And.intro rfl (trivial)) ?_
            refine WD_takeK [29] [0, 1, 5, 43] [0, 1, 5, 43] (φ := True) (ls' := #[true, true, true, true, true, true, true, true, true, true, true, true, true, true, true, true, true, true, true, true, true, true, true, true, true, true, true, true, true, true]) (Ts' := [(0, .one (.e (.sl 0 0 x1.length))), (1, I i2), (5, I i117), (43, B b166)]) (st' := ⟨[(0, .one (.e (.sl 0 0 x1.length))), (1, I i2), (5, I i117), (43, B b166)], [.row .rcd x1 false]⟩) (n2 := 0) (by kernel_rfl) trivial rfl ?_
            exact WD_done [0] [0, 1, 5, 43] (st' := ⟨[(0, .one (.e (.sl 0 0 x1.length))), (1, I i2), (5, I i117), (43, B b166)], [.row .rcd x1 false]⟩) (by kernel_rfl) (by kernel_rfl) (And.intro rfl (by cases hv169; rfl))
          · refine W_draw [] false (by kernel_rfl) (by kernel_rfl) ?_
            refine WD_takeK [0, 1, 2, 3, 4, 5, 6] [0, 1, 5, 20] [0, 1, 5, 20] (φ := ((0 ≤ i117 ∧ i117 < ((x1.length : Nat) : Int)) ∧ (0 ≤ i117 ∧ i117 < ((x1.length : Nat) : Int)) ∧ (True ∧ True ∧ True))) (ls' := #[true, true, true, true, true, true, true, false, false, false, false, false, false, false, false, false, false, false, false, false, false, false, false, false, false, false, false, false, false, false]) (Ts' := [(0, .one (.e (.sl 0 0 x1.length))), (1, I i2), (5, I i117), (20, B (!(x1.getD i117.toNat drcd).fin))]) (st' := ⟨[(0, .one (.e (.sl 0 0 x1.length))), (1, I i2), (5, I i117), (20, B (!(x1.getD i117.toNat drcd).fin))], [.row .rcd x1 false]⟩) (n2 := 23) (by kernel_rfl) ⟨hg160, hg160, trivial, trivial, trivial⟩ rfl ?_
            refine WD_known 20 true rfl rfl hb161 ?_
            refine WD_takeK [7, 8, 9, 10, 11, 12, 13, 14, 15, 16, 17, 18, 19] [0, 1, 5, 33] [0, 1, 5, 33] (φ := ((0 ≤ i117 ∧ i117 < ((x1.length : Nat) : Int)) ∧ (0 ≤ i117 ∧ i117 < ((x1.length : Nat) : Int)) ∧ (True ∧ True ∧ ((0 ≤ i2 ∧ i2 < ((x1.length : Nat) : Int)) ∧ (0 ≤ i2 ∧ i2 < ((x1.length : Nat) : Int)) ∧ (True ∧ True ∧ (True ∧ True ∧ True)))))) (ls' := #[true, true, true, true, true, true, true, true, true, true, true, true, true, true, true, true, true, true, true, true, false, false, false, false, false, false, false, false, false, false]) (Ts' := [(0, .one (.e (.sl 0 0 x1.length))), (1, I i2), (5, I i117), (33, B (decide (((x1.getD i117.toNat drcd).node) = ((x1.getD i2.toNat drcd).node))))]) (st' := ⟨[(0, .one (.e (.sl 0 0 x1.length))), (1, I i2), (5, I i117), (33, B (decide (((x1.getD i117.toNat drcd).node) = ((x1.getD i2.toNat drcd).node))))], [.row .rcd x1 false]⟩) (n2 := 10) (by kernel_rfl) ⟨hg162, hg162, trivial, trivial, hg163, hg163, trivial, trivial, trivial, trivial, trivial⟩ rfl ?_
            refine WD_known 33 false rfl rfl hb164 ?_
            refine WD_takeK [20, 21, 22, 23, 24, 25, 26, 27, 28, 29] [0, 1, 5, 43] [0, 1, 5, 43] (φ := True) (ls' := #[true, true, true, true, true, true, true, true, true, true, true, true, true, true, true, true, true, true, true, true, true, true, true, true, true, true, true, true, true, true]) (Ts' := [(0, .one (.e (.sl 0 0 x1.length))), (1, I i2), (5, I i117), (43, B false)]) (st' := ⟨[(0, .one (.e (.sl 0 0 x1.length))), (1, I i2), (5, I i117), (43, B false)], [.row .rcd x1 false]⟩) (n2 := 0) (by kernel_rfl) trivial rfl ?_
            exact WD_done [0] [0, 1, 5, 43] (st' := ⟨[(0, .one (.e (.sl 0 0 x1.length))), (1, I i2), (5, I i117), (43, B false)], [.row .rcd x1 false]⟩) (by kernel_rfl) (by kernel_rfl) (And.intro rfl (by cases hv169; rfl))
        · refine W_draw [] false (by kernel_rfl) (by kernel_rfl) ?_
          refine WD_takeK [0, 1, 2, 3, 4, 5, 6] [0, 1, 5, 20] [0, 1, 5, 20] (φ := ((0 ≤ i117 ∧ i117 < ((x1.length : Nat) : Int)) ∧ (0 ≤ i117 ∧ i117 < ((x1.length : Nat) : Int)) ∧ (True ∧ True ∧ True))) (ls' := #[true, true, true, true, true, true, true, false, false, false, false, false, false, false, false, false, false, false, false, false, false, false, false, false, false, false, false, false, false, false]) (Ts' := [(0, .one (.e (.sl 0 0 x1.length))), (1, I i2), (5, I i117), (20, B (!(x1.getD i117.toNat drcd).fin))]) (st' := ⟨[(0, .one (.e (.sl 0 0 x1.length))), (1, I i2), (5, I i117), (20, B (!(x1.getD i117.toNat drcd).fin))], [.row .rcd x1 false]⟩) (n2 := 23) (by kernel_rfl) ⟨hg160, hg160, trivial, trivial, trivial⟩ rfl ?_
          refine WD_known 20 false rfl rfl hb161 ?_
          refine WD_takeK [7, 8, 9, 10, 11, 12, 13, 14, 15, 16, 17, 18, 19, 20, 21, 22, 23, 24, 25, 26, 27, 28, 29] [0, 1, 5, 43] [0, 1, 5, 43] (φ := True) (ls' := #[true, true, true, true, true, true, true, true, true, true, true, true, true, true, true, true, true, true, true, true, true, true, true, true, true, true, true, true, true, true]) (Ts' := [(0, .one (.e (.sl 0 0 x1.length))), (1, I i2), (5, I i117), (43, B false)]) (st' := ⟨[(0, .one (.e (.sl 0 0 x1.length))), (1, I i2), (5, I i117), (43, B false)], [.row .rcd x1 false]⟩) (n2 := 0) (by kernel_rfl) trivial rfl ?_
          exact WD_done [0] [0, 1, 5, 43] (st' := ⟨[(0, .one (.e (.sl 0 0 x1.length))), (1, I i2), (5, I i117), (43, B false)], [.row .rcd x1 false]⟩) (by kernel_rfl) (by kernel_rfl) (And.intro rfl (by cases hv169; rfl))
      · rintro _ _ ⟨rfl, rfl⟩
        refine thenS_n ?_
        refine iteO_e h (fun hb171 h => W_true rfl hb171 ?_) (fun hb171 h => W_false rfl hb171 ?_)
        · refine W_seq ?_
          refine W_region ?_
          refine WO_step 1 [0] [4] True ⟨[(4, B true)], [.row .rcd x1 false]⟩ (by kernel_rfl) trivial ?_
          refine WO_nil rfl ?_
          refine thenS_n ?_
          refine W_ret ?_
          refine blockS_r ?_
          refine thenS_r ?_
          refine thenS_r ?_
          cases h
          exact And.intro rfl rfl
        · refine W_sub [0] [0, 1, 5] (st' := ⟨[(0, .one (.e (.sl 0 0 x1.length))), (1, I i2), (5, I i117)], [.row .rcd x1 false]⟩) (by kernel_rfl) ?_
          refine W_skip ?_
          refine blockS_n ?_
          refine thenS_n ?_
          refine W_region ?_
          refine WO_step 3 [0] [0, 1, 5] (True ∧ True) ⟨[(0, .one (.e (.sl 0 0 x1.length))), (1, I i2), (5, I (w64 (i117 + 1)))], [.row .rcd x1 false]⟩ (by kernel_rfl) ⟨trivial, trivial⟩ ?_
          refine WO_nil rfl ?_
          refine thenS_n ?_
          exact ih _ h
    · refine W_sub [0] [] (st' := ⟨[], [.row .rcd x1 false]⟩) (by kernel_rfl) ?_
      refine W_exit ?_
      refine thenS_e ?_
      refine thenS_e ?_
      cases h
      exact And.intro rfl rfl

def spec_replaced (n : Nat) (x1 : List Rcd) (i2 : Int) : Option (Bool) :=
 bindO (spec_replaced_L1 x1 i2 n (w64 (i2 + 1))) fun v172 =>
 match v172 with
 | (.inl _) => (some true)
 | (.inr _) => (some false)


theorem spec_replaced_ok (n : Nat) (x1 : List Rcd) (i2 : Int) (b87 : Bool) (h : spec_replaced n x1 i2 = some b87) : FOk EE 51 [.one (.e (.sl 0 0 x1.length)), I i2] [.row .rcd x1 false] (B b87) [.row .rcd x1 false] := by
  unfold spec_replaced at h
  refine FOk_of_W 44 1 Try.func51 rfl rfl (Nat.le_of_ble_eq_true rfl) rfl (fun w X θ => ?_)
  refine W_seq ?_
  refine W_region ?_
  refine WO_step 1 [0] [0, 1] True ⟨[(0, .one (.e (.sl 0 0 x1.length))), (1, I i2)], [.row .rcd x1 false]⟩ (by kernel_rfl) trivial ?_
  refine WO_nil rfl ?_
  refine thenS_n ?_
  refine W_seq ?_
  refine W_seq ?_
  refine W_region ?_
  refine WO_step 3 [0] [0, 1, 5] (True ∧ True) ⟨[(0, .one (.e (.sl 0 0 x1.length))), (1, I i2), (5, I (w64 (i2 + 1)))], [.row .rcd x1 false]⟩ (by kernel_rfl) ⟨trivial, trivial⟩ ?_
  refine WO_nil rfl ?_
  refine thenS_n ?_
  refine W_block ?_
  refine W_loop ?_
  refine bindO_e h (fun v172 hv172 h => ?_)
  refine WL_cut (spec_replaced_L1_ok w X θ x1 i2 v172 n (w64 (i2 + 1)) hv172) ?_
  rcases v172 with _ | _
  · rintro _ _ ⟨rfl, rfl⟩
    refine blockS_r ?_
    refine thenS_r ?_
    cases h
    exact ⟨[0], True, by kernel_rfl, trivial⟩
  · rintro _ _ ⟨rfl, rfl⟩
    refine blockS_y ?_
    refine thenS_n ?_
    refine W_seq ?_
    refine W_region ?_
    refine WO_step 1 [0] [4] True ⟨[(4, B false)], [.row .rcd x1 false]⟩ (by kernel_rfl) trivial ?_
    refine WO_nil rfl ?_
    refine thenS_n ?_
    refine W_ret ?_
    cases h
    exact ⟨[0], True, by kernel_rfl, trivial⟩

/- spec.ShortLog -/
def spec_ShortLog_L1 (x2 : List Rcd) (x1 : List Nod) : Nat → (List Rcd) → (List Int) → Int → Option ((List Rcd))
| 0, _, _, _ => none
| n + 1, x220, x221, i222 =>
 iteO (decide (i222 < ((x2.length : Nat) : Int)))
 (bindO (guardO (0 ≤ i222 ∧ i222 < ((x2.length : Nat) : Int)) <|
 iteO ((x2.getD i222.toNat drcd).fin)
 (bindO (spec_isIn n x221 ((x2.getD i222.toNat drcd).who)) fun b324 =>
 bindO (iteO b324
 (guardO (0 = 0 ∧ x220.length = x220.length ∧ x220.length + (([(⟨(x2.getD i222.toNat drcd).who, (x2.getD i222.toNat drcd).node, (x2.getD i222.toNat drcd).value, (x2.getD i222.toNat drcd).fin⟩ : Rcd)].drop 0).take ([(⟨(x2.getD i222.toNat drcd).who, (x2.getD i222.toNat drcd).node, (x2.getD i222.toNat drcd).value, (x2.getD i222.toNat drcd).fin⟩ : Rcd)].length)).length ≤ 1099511627776) <|
 bindO (spec_leave n x221 ((x2.getD i222.toNat drcd).who)) fun x335 =>
 some ((x220 ++ (([(⟨(x2.getD i222.toNat drcd).who, (x2.getD i222.toNat drcd).node, (x2.getD i222.toNat drcd).value, (x2.getD i222.toNat drcd).fin⟩ : Rcd)].drop 0).take ([(⟨(x2.getD i222.toNat drcd).who, (x2.getD i222.toNat drcd).node, (x2.getD i222.toNat drcd).value, (x2.getD i222.toNat drcd).fin⟩ : Rcd)].length))), x335))
 (some (x220, x221))) fun v332 =>
 match v332 with
 | (x330, x331) => (some (x330, x331))
)
 (bindO (spec_ended n x2 (w64 (i222 + 1)) ((x2.getD i222.toNat drcd).who)) fun b337 =>
 bindO (iteO b337
 (bindO (spec_replaced n x2 i222) fun b345 =>
 some (!b345))
 (some false)) fun b342 =>
 bindO (iteO b342
 (guardO (0 = 0 ∧ x220.length = x220.length ∧ x220.length + (([(⟨(x2.getD i222.toNat drcd).who, (x2.getD i222.toNat drcd).node, (x2.getD i222.toNat drcd).value, (x2.getD i222.toNat drcd).fin⟩ : Rcd)].drop 0).take ([(⟨(x2.getD i222.toNat drcd).who, (x2.getD i222.toNat drcd).node, (x2.getD i222.toNat drcd).value, (x2.getD i222.toNat drcd).fin⟩ : Rcd)].length)).length ≤ 1099511627776) <|
 guardO (0 = 0 ∧ x221.length = x221.length ∧ x221.length + (([(x2.getD i222.toNat drcd).who].drop 0).take ([(x2.getD i222.toNat drcd).who].length)).length ≤ 1099511627776) <|
 some ((x220 ++ (([(⟨(x2.getD i222.toNat drcd).who, (x2.getD i222.toNat drcd).node, (x2.getD i222.toNat drcd).value, (x2.getD i222.toNat drcd).fin⟩ : Rcd)].drop 0).take ([(⟨(x2.getD i222.toNat drcd).who, (x2.getD i222.toNat drcd).node, (x2.getD i222.toNat drcd).value, (x2.getD i222.toNat drcd).fin⟩ : Rcd)].length))), (x221 ++ (([(x2.getD i222.toNat drcd).who].drop 0).take ([(x2.getD i222.toNat drcd).who].length)))))
 (some (x220, x221))) fun v352 =>
 match v352 with
 | (x350, x351) => (some (x350, x351))
)) fun v311 =>
 match v311 with
 | (x309, x310) => (spec_ShortLog_L1 x2 x1 n x309 x310 (w64 (i222 + 1)))
)
 (some x220)

theorem spec_ShortLog_L1_ok (w : World) (X : Nat → Prop) (θ : List Loc) (x2 : List Rcd) (x1 : List Nod) (x268 : (List Rcd)) : ∀ (n : Nat) (x220 : List Rcd) (x221 : List Int) (i222 : Int), spec_ShortLog_L1 x2 x1 n x220 x221 i222 = some x268 → WL EE ⟨w, X, θ, 66, 2⟩ (subC [1, 1, 1, 1, 0, 1, 4, 4] (bodyC Try.f25)) (fun (e : Exit) (s : St) => e = .exit 0 ∧ s = ⟨[(5, .one (.e (.sl 2 0 x268.length)))], [.row .nod x1 false, .row .rcd x2 false, .row .rcd x268 true]⟩) ⟨[(1, .one (.e (.sl 1 0 x2.length))), (5, .one (.e (.sl 2 0 x220.length))), (6, .one (.e (.sl 3 0 x221.length))), (7, I i222)], [.row .nod x1 false, .row .rcd x2 false, .row .rcd x220 true, .row .int x221 true]⟩ := by
  intro n
  induction n with
  | zero => intro _ _ _ h; exact none_e h
  | succ n ih =>
    intro x220 x221 i222 h
    rw [spec_ShortLog_L1] at h
    refine WL_round ?_
    refine W_seq ?_
    refine W_seq ?_
    refine W_region ?_
    refine WO_step 4 [0, 1, 2, 3] [1, 5, 6, 7, 23] (True ∧ (True ∧ True)) ⟨[(1, .one (.e (.sl 1 0 x2.length))), (5, .one (.e (.sl 2 0 x220.length))), (6, .one (.e (.sl 3 0 x221.length))), (7, I i222), (23, B (decide (i222 < ((x2.length : Nat) : Int))))], [.row .nod x1 false, .row .rcd x2 false, .row .rcd x220 true, .row .int x221 true]⟩ (by kernel_rfl) ⟨trivial, trivial, trivial⟩ ?_
    refine WO_nil rfl ?_
    refine thenS_n ?_
    refine iteO_e h (fun hb271 h => W_true rfl hb271 ?_) (fun hb271 h => W_false rfl hb271 ?_)
    · refine W_sub [0, 1, 2, 3] [1, 5, 6, 7] (st' := ⟨[(1, .one (.e (.sl 1 0 x2.length))), (5, .one (.e (.sl 2 0 x220.length))), (6, .one (.e (.sl 3 0 x221.length))), (7, I i222)], [.row .nod x1 false, .row .rcd x2 false, .row .rcd x220 true, .row .int x221 true]⟩) (by kernel_rfl) ?_
      refine W_skip ?_
      refine thenS_n ?_
      refine W_seq ?_
      refine bindO_e h (fun v311 hv311 h => ?_)
      refine W_cut (Q' := fun (e : Exit) (s : St) => (match v311 with | (x309, x310) => e = .normal ∧ s = ⟨[(1, .one (.e (.sl 1 0 x2.length))), (5, .one (.e (.sl 2 0 x309.length))), (6, .one (.e (.sl 3 0 x310.length))), (7, I i222)], [.row .nod x1 false, .row .rcd x2 false, .row .rcd x309 true, .row .int x310 true]⟩ : Prop)) ?_ ?_
      · refine W_block ?_
        refine W_seq ?_
        refine W_region ?_
        refine guardO_e hv311 (fun hg312 hv311 => ?_)
        refine WO_step 6 [0, 1, 2, 3, 4] [1, 5, 6, 7, 8] ((0 ≤ i222 ∧ i222 < ((x2.length : Nat) : Int)) ∧ (True ∧ (True ∧ (True ∧ True)))) ⟨[(1, .one (.e (.sl 1 0 x2.length))), (5, .one (.e (.sl 2 0 x220.length))), (6, .one (.e (.sl 3 0 x221.length))), (7, I i222), (8, .one (.e (.p 4 0)))], [.row .nod x1 false, .row .rcd x2 false, .row .rcd x220 true, .row .int x221 true, .cells [cI ((x2.getD i222.toNat drcd).who), cI ((x2.getD i222.toNat drcd).node), cI ((x2.getD i222.toNat drcd).value), cB ((x2.getD i222.toNat drcd).fin)]]⟩ (by kernel_rfl) ⟨hg312, trivial, trivial, trivial, trivial⟩ ?_
        refine WO_nil rfl ?_
        refine thenS_n ?_
        refine W_seq ?_
        refine W_seq ?_
        refine W_region ?_
        refine WO_step 2 [0, 1, 2, 3, 4] [1, 5, 6, 7, 8, 31] (True ∧ True) ⟨[(1, .one (.e (.sl 1 0 x2.length))), (5, .one (.e (.sl 2 0 x220.length))), (6, .one (.e (.sl 3 0 x221.length))), (7, I i222), (8, .one (.e (.p 4 0))), (31, B ((x2.getD i222.toNat drcd).fin))], [.row .nod x1 false, .row .rcd x2 false, .row .rcd x220 true, .row .int x221 true, .cells [cI ((x2.getD i222.toNat drcd).who), cI ((x2.getD i222.toNat drcd).node), cI ((x2.getD i222.toNat drcd).value), cB ((x2.getD i222.toNat drcd).fin)]]⟩ (by kernel_rfl) ⟨trivial, trivial⟩ ?_
        refine WO_nil rfl ?_
        refine thenS_n ?_
        refine iteO_e hv311 (fun hb323 hv311 => W_true rfl hb323 ?_) (fun hb323 hv311 => W_false rfl hb323 ?_)
        · refine W_seq ?_
          refine W_seq ?_
          refine W_region ?_
          refine WO_step 3 [0, 1, 2, 3, 4] [1, 5, 6, 7, 8, 32, 34] (True ∧ True) ⟨[(1, .one (.e (.sl 1 0 x2.length))), (5, .one (.e (.sl 2 0 x220.length))), (6, .one (.e (.sl 3 0 x221.length))), (7, I i222), (8, .one (.e (.p 4 0))), (32, .one (.e (.sl 3 0 x221.length))), (34, I ((x2.getD i222.toNat drcd).who))], [.row .nod x1 false, .row .rcd x2 false, .row .rcd x220 true, .row .int x221 true, .cells [cI ((x2.getD i222.toNat drcd).who), cI ((x2.getD i222.toNat drcd).node), cI ((x2.getD i222.toNat drcd).value), cB ((x2.getD i222.toNat drcd).fin)]]⟩ (by kernel_rfl) ⟨trivial, trivial⟩ ?_
          refine bindO_e hv311 (fun b324 hc325 hv311 => ?_)
          refine WO_call [.ro 3] Try.f49 rfl rfl rfl (by kernel_rfl) rfl rfl (by kernel_rfl) (spec_isIn_ok n x221 ((x2.getD i222.toNat drcd).who) b324 hc325) (And.intro (And.intro rfl rfl) (trivial)) rfl ?_
          refine WO_sub [0, 1, 2, 3, 4] [1, 5, 6, 7, 8, 35] (st' := ⟨[(1, .one (.e (.sl 1 0 x2.length))), (5, .one (.e (.sl 2 0 x220.length))), (6, .one (.e (.sl 3 0 x221.length))), (7, I i222), (8, .one (.e (.p 4 0))), (35, B b324)], [.row .nod x1 false, .row .rcd x2 false, .row .rcd x220 true, .row .int x221 true, .cells [cI ((x2.getD i222.toNat drcd).who), cI ((x2.getD i222.toNat drcd).node), cI ((x2.getD i222.toNat drcd).value), cB ((x2.getD i222.toNat drcd).fin)]]⟩) (by kernel_rfl) ?_
          refine WO_nil rfl ?_
          refine thenS_n ?_
          refine bindO_e hv311 (fun v332 hv332 hv311 => ?_)
          refine W_cut (Q' := fun (e : Exit) (s : St) => (match v332 with | (x330, x331) => e = .normal ∧ s = ⟨[(1, .one (.e (.sl 1 0 x2.length))), (5, .one (.e (.sl 2 0 x330.length))), (6, .one (.e (.sl 3 0 x331.length))), (7, I i222)], [.row .nod x1 false, .row .rcd x2 false, .row .rcd x330 true, .row .int x331 true]⟩ : Prop)) ?_ ?_
          · refine iteO_e hv332 (fun hb333 hv332 => W_true rfl hb333 ?_) (fun hb333 hv332 => W_false rfl hb333 ?_)
            · refine W_seq ?_
              refine W_region ?_
              refine guardO_e hv332 (fun hg334 hv332 => ?_)
              refine WO_step 5 [0, 1, 6, 3, 4] [1, 5, 6, 7, 8] (True ∧ ((0 = 0 ∧ x220.length = x220.length ∧ x220.length + (([(⟨(x2.getD i222.toNat drcd).who, (x2.getD i222.toNat drcd).node, (x2.getD i222.toNat drcd).value, (x2.getD i222.toNat drcd).fin⟩ : Rcd)].drop 0).take ([(⟨(x2.getD i222.toNat drcd).who, (x2.getD i222.toNat drcd).node, (x2.getD i222.toNat drcd).value, (x2.getD i222.toNat drcd).fin⟩ : Rcd)].length)).length ≤ 1099511627776) ∧ True)) ⟨[(1, .one (.e (.sl 1 0 x2.length))), (5, .one (.e (.sl 2 0 ((x220 ++ (([(⟨(x2.getD i222.toNat drcd).who, (x2.getD i222.toNat drcd).node, (x2.getD i222.toNat drcd).value, (x2.getD i222.toNat drcd).fin⟩ : Rcd)].drop 0).take ([(⟨(x2.getD i222.toNat drcd).who, (x2.getD i222.toNat drcd).node, (x2.getD i222.toNat drcd).value, (x2.getD i222.toNat drcd).fin⟩ : Rcd)].length))).length)))), (6, .one (.e (.sl 3 0 x221.length))), (7, I i222), (8, .one (.e (.p 4 0)))], [.row .nod x1 false, .row .rcd x2 false, .row .rcd (x220 ++ (([(⟨(x2.getD i222.toNat drcd).who, (x2.getD i222.toNat drcd).node, (x2.getD i222.toNat drcd).value, (x2.getD i222.toNat drcd).fin⟩ : Rcd)].drop 0).take ([(⟨(x2.getD i222.toNat drcd).who, (x2.getD i222.toNat drcd).node, (x2.getD i222.toNat drcd).value, (x2.getD i222.toNat drcd).fin⟩ : Rcd)].length))) true, .row .int x221 true, .cells [cI ((x2.getD i222.toNat drcd).who), cI ((x2.getD i222.toNat drcd).node), cI ((x2.getD i222.toNat drcd).value), cB ((x2.getD i222.toNat drcd).fin)]]⟩ (by kernel_rfl) ⟨trivial, hg334, trivial⟩ ?_
              refine WO_nil rfl ?_
              refine thenS_n ?_
              refine W_region ?_
              refine WO_step 3 [0, 1, 2, 3] [1, 5, 7, 40, 42] (True ∧ True) ⟨[(1, .one (.e (.sl 1 0 x2.length))), (5, .one (.e (.sl 2 0 ((x220 ++ (([(⟨(x2.getD i222.toNat drcd).who, (x2.getD i222.toNat drcd).node, (x2.getD i222.toNat drcd).value, (x2.getD i222.toNat drcd).fin⟩ : Rcd)].drop 0).take ([(⟨(x2.getD i222.toNat drcd).who, (x2.getD i222.toNat drcd).node, (x2.getD i222.toNat drcd).value, (x2.getD i222.toNat drcd).fin⟩ : Rcd)].length))).length)))), (7, I i222), (40, .one (.e (.sl 3 0 x221.length))), (42, I ((x2.getD i222.toNat drcd).who))], [.row .nod x1 false, .row .rcd x2 false, .row .rcd (x220 ++ (([(⟨(x2.getD i222.toNat drcd).who, (x2.getD i222.toNat drcd).node, (x2.getD i222.toNat drcd).value, (x2.getD i222.toNat drcd).fin⟩ : Rcd)].drop 0).take ([(⟨(x2.getD i222.toNat drcd).who, (x2.getD i222.toNat drcd).node, (x2.getD i222.toNat drcd).value, (x2.getD i222.toNat drcd).fin⟩ : Rcd)].length))) true, .row .int x221 true]⟩ (by kernel_rfl) ⟨trivial, trivial⟩ ?_
              refine bindO_e hv332 (fun x335 hc336 hv332 => ?_)
              refine WO_call [.ro 3] Try.f50 rfl rfl rfl (by kernel_rfl) rfl rfl (by kernel_rfl) (spec_leave_ok n x221 ((x2.getD i222.toNat drcd).who) x335 hc336) (And.intro (And.intro rfl rfl) (trivial)) rfl ?_
              refine WO_step 1 [0, 1, 2, 4] [1, 5, 6, 7] True ⟨[(1, .one (.e (.sl 1 0 x2.length))), (5, .one (.e (.sl 2 0 ((x220 ++ (([(⟨(x2.getD i222.toNat drcd).who, (x2.getD i222.toNat drcd).node, (x2.getD i222.toNat drcd).value, (x2.getD i222.toNat drcd).fin⟩ : Rcd)].drop 0).take ([(⟨(x2.getD i222.toNat drcd).who, (x2.getD i222.toNat drcd).node, (x2.getD i222.toNat drcd).value, (x2.getD i222.toNat drcd).fin⟩ : Rcd)].length))).length)))), (6, .one (.e (.sl 3 0 x335.length))), (7, I i222)], [.row .nod x1 false, .row .rcd x2 false, .row .rcd (x220 ++ (([(⟨(x2.getD i222.toNat drcd).who, (x2.getD i222.toNat drcd).node, (x2.getD i222.toNat drcd).value, (x2.getD i222.toNat drcd).fin⟩ : Rcd)].drop 0).take ([(⟨(x2.getD i222.toNat drcd).who, (x2.getD i222.toNat drcd).node, (x2.getD i222.toNat drcd).value, (x2.getD i222.toNat drcd).fin⟩ : Rcd)].length))) true, .row .int x335 true]⟩ (by kernel_rfl) trivial ?_
              refine WO_nil rfl ?_
              cases hv332
              exact And.intro rfl rfl
            · refine W_sub [0, 1, 2, 3] [1, 5, 6, 7] (st' := ⟨[(1, .one (.e (.sl 1 0 x2.length))), (5, .one (.e (.sl 2 0 x220.length))), (6, .one (.e (.sl 3 0 x221.length))), (7, I i222)], [.row .nod x1 false, .row .rcd x2 false, .row .rcd x220 true, .row .int x221 true]⟩) (by kernel_rfl) ?_
              refine W_skip ?_
              cases hv332
              exact And.intro rfl rfl
          · obtain ⟨x330, x331⟩ := v332
            rintro _ _ ⟨rfl, rfl⟩
            refine thenS_n ?_
            refine W_exit ?_
            refine thenS_e ?_
            refine blockS_y ?_
            cases hv311
            exact And.intro rfl rfl
        · refine W_sub [0, 1, 2, 3, 4] [1, 5, 6, 7, 8] (st' := ⟨[(1, .one (.e (.sl 1 0 x2.length))), (5, .one (.e (.sl 2 0 x220.length))), (6, .one (.e (.sl 3 0 x221.length))), (7, I i222), (8, .one (.e (.p 4 0)))], [.row .nod x1 false, .row .rcd x2 false, .row .rcd x220 true, .row .int x221 true, .cells [cI ((x2.getD i222.toNat drcd).who), cI ((x2.getD i222.toNat drcd).node), cI ((x2.getD i222.toNat drcd).value), cB ((x2.getD i222.toNat drcd).fin)]]⟩) (by kernel_rfl) ?_
          refine W_skip ?_
          refine thenS_n ?_
          refine W_seq ?_
          refine W_region ?_
          refine WO_step 5 [0, 1, 2, 3, 4] [1, 5, 6, 7, 8, 44, 46, 48] (True ∧ (True ∧ True)) ⟨[(1, .one (.e (.sl 1 0 x2.length))), (5, .one (.e (.sl 2 0 x220.length))), (6, .one (.e (.sl 3 0 x221.length))), (7, I i222), (8, .one (.e (.p 4 0))), (44, .one (.e (.sl 1 0 x2.length))), (46, I (w64 (i222 + 1))), (48, I ((x2.getD i222.toNat drcd).who))], [.row .nod x1 false, .row .rcd x2 false, .row .rcd x220 true, .row .int x221 true, .cells [cI ((x2.getD i222.toNat drcd).who), cI ((x2.getD i222.toNat drcd).node), cI ((x2.getD i222.toNat drcd).value), cB ((x2.getD i222.toNat drcd).fin)]]⟩ (by kernel_rfl) ⟨trivial, trivial, trivial⟩ ?_
          refine bindO_e hv311 (fun b337 hc338 hv311 => ?_)
          refine WO_call [.ro 1] Try.f44 rfl rfl rfl (by kernel_rfl) rfl rfl (by kernel_rfl) (spec_ended_ok n x2 (w64 (i222 + 1)) ((x2.getD i222.toNat drcd).who) b337 hc338) (And.intro (And.intro rfl rfl) (trivial)) rfl ?_
          refine WO_step 1 [0, 1, 2, 3, 4] [1, 5, 6, 7, 8, 50] True ⟨[(1, .one (.e (.sl 1 0 x2.length))), (5, .one (.e (.sl 2 0 x220.length))), (6, .one (.e (.sl 3 0 x221.length))), (7, I i222), (8, .one (.e (.p 4 0))), (50, B b337)], [.row .nod x1 false, .row .rcd x2 false, .row .rcd x220 true, .row .int x221 true, .cells [cI ((x2.getD i222.toNat drcd).who), cI ((x2.getD i222.toNat drcd).node), cI ((x2.getD i222.toNat drcd).value), cB ((x2.getD i222.toNat drcd).fin)]]⟩ (by kernel_rfl) trivial ?_
          refine bindO_e hv311 (fun b342 hv343 hv311 => ?_)
          refine WO_thru ⟨[(1, .one (.e (.sl 1 0 x2.length))), (5, .one (.e (.sl 2 0 x220.length))), (6, .one (.e (.sl 3 0 x221.length))), (7, I i222), (8, .one (.e (.p 4 0))), (55, B b342)], [.row .nod x1 false, .row .rcd x2 false, .row .rcd x220 true, .row .int x221 true, .cells [cI ((x2.getD i222.toNat drcd).who), cI ((x2.getD i222.toNat drcd).node), cI ((x2.getD i222.toNat drcd).value), cB ((x2.getD i222.toNat drcd).fin)]]⟩ ?_ ?_
          · refine iteO_e hv343 (fun hb344 hv343 => WO_known 50 true rfl hb344 ?_) (fun hb344 hv343 => WO_known 50 false rfl hb344 ?_)
            · refine WO_step 2 [0, 1, 2, 3, 4] [1, 5, 6, 7, 8, 50, 51, 52] True ⟨[(1, .one (.e (.sl 1 0 x2.length))), (5, .one (.e (.sl 2 0 x220.length))), (6, .one (.e (.sl 3 0 x221.length))), (7, I i222), (8, .one (.e (.p 4 0))), (50, B true), (51, .one (.e (.sl 1 0 x2.length))), (52, I i222)], [.row .nod x1 false, .row .rcd x2 false, .row .rcd x220 true, .row .int x221 true, .cells [cI ((x2.getD i222.toNat drcd).who), cI ((x2.getD i222.toNat drcd).node), cI ((x2.getD i222.toNat drcd).value), cB ((x2.getD i222.toNat drcd).fin)]]⟩ (by kernel_rfl) trivial ?_
              refine bindO_e hv343 (fun b345 hc346 hv343 => ?_)
              refine WO_call [.ro 1] Try.f51 rfl rfl rfl (by kernel_rfl) rfl rfl (by kernel_rfl) (spec_replaced_ok n x2 i222 b345 hc346) (And.intro (And.intro rfl rfl) (trivial)) rfl ?_
              refine WO_step 2 [0, 1, 2, 3, 4] [1, 5, 6, 7, 8, 55] True ⟨[(1, .one (.e (.sl 1 0 x2.length))), (5, .one (.e (.sl 2 0 x220.length))), (6, .one (.e (.sl 3 0 x221.length))), (7, I i222), (8, .one (.e (.p 4 0))), (55, B (!b345))], [.row .nod x1 false, .row .rcd x2 false, .row .rcd x220 true, .row .int x221 true, .cells [cI ((x2.getD i222.toNat drcd).who), cI ((x2.getD i222.toNat drcd).node), cI ((x2.getD i222.toNat drcd).value), cB ((x2.getD i222.toNat drcd).fin)]]⟩ (by kernel_rfl) trivial ?_
              cases hv343
              exact WO_nil rfl ⟨rfl, rfl⟩
            · refine WO_step 5 [0, 1, 2, 3, 4] [1, 5, 6, 7, 8, 55] True ⟨[(1, .one (.e (.sl 1 0 x2.length))), (5, .one (.e (.sl 2 0 x220.length))), (6, .one (.e (.sl 3 0 x221.length))), (7, I i222), (8, .one (.e (.p 4 0))), (55, B false)], [.row .nod x1 false, .row .rcd x2 false, .row .rcd x220 true, .row .int x221 true, .cells [cI ((x2.getD i222.toNat drcd).who), cI ((x2.getD i222.toNat drcd).node), cI ((x2.getD i222.toNat drcd).value), cB ((x2.getD i222.toNat drcd).fin)]]⟩ (by kernel_rfl) trivial ?_
              cases hv343
              exact WO_nil rfl ⟨rfl, rfl⟩
          · refine thenS_n ?_
            refine bindO_e hv311 (fun v352 hv352 hv311 => ?_)
            refine W_cut (Q' := fun (e : Exit) (s : St) => (match v352 with | (x350, x351) => e = .normal ∧ s = ⟨[(1, .one (.e (.sl 1 0 x2.length))), (5, .one (.e (.sl 2 0 x350.length))), (6, .one (.e (.sl 3 0 x351.length))), (7, I i222)], [.row .nod x1 false, .row .rcd x2 false, .row .rcd x350 true, .row .int x351 true]⟩ : Prop)) ?_ ?_
            · refine iteO_e hv352 (fun hb353 hv352 => W_true rfl hb353 ?_) (fun hb353 hv352 => W_false rfl hb353 ?_)
              · refine W_seq ?_
                refine W_region ?_
                refine guardO_e hv352 (fun hg354 hv352 => ?_)
                refine WO_step 5 [0, 1, 6, 3, 4] [1, 5, 6, 7, 8] (True ∧ ((0 = 0 ∧ x220.length = x220.length ∧ x220.length + (([(⟨(x2.getD i222.toNat drcd).who, (x2.getD i222.toNat drcd).node, (x2.getD i222.toNat drcd).value, (x2.getD i222.toNat drcd).fin⟩ : Rcd)].drop 0).take ([(⟨(x2.getD i222.toNat drcd).who, (x2.getD i222.toNat drcd).node, (x2.getD i222.toNat drcd).value, (x2.getD i222.toNat drcd).fin⟩ : Rcd)].length)).length ≤ 1099511627776) ∧ True)) ⟨[(1, .one (.e (.sl 1 0 x2.length))), (5, .one (.e (.sl 2 0 ((x220 ++ (([(⟨(x2.getD i222.toNat drcd).who, (x2.getD i222.toNat drcd).node, (x2.getD i222.toNat drcd).value, (x2.getD i222.toNat drcd).fin⟩ : Rcd)].drop 0).take ([(⟨(x2.getD i222.toNat drcd).who, (x2.getD i222.toNat drcd).node, (x2.getD i222.toNat drcd).value, (x2.getD i222.toNat drcd).fin⟩ : Rcd)].length))).length)))), (6, .one (.e (.sl 3 0 x221.length))), (7, I i222), (8, .one (.e (.p 4 0)))], [.row .nod x1 false, .row .rcd x2 false, .row .rcd (x220 ++ (([(⟨(x2.getD i222.toNat drcd).who, (x2.getD i222.toNat drcd).node, (x2.getD i222.toNat drcd).value, (x2.getD i222.toNat drcd).fin⟩ : Rcd)].drop 0).take ([(⟨(x2.getD i222.toNat drcd).who, (x2.getD i222.toNat drcd).node, (x2.getD i222.toNat drcd).value, (x2.getD i222.toNat drcd).fin⟩ : Rcd)].length))) true, .row .int x221 true, .cells [cI ((x2.getD i222.toNat drcd).who), cI ((x2.getD i222.toNat drcd).node), cI ((x2.getD i222.toNat drcd).value), cB ((x2.getD i222.toNat drcd).fin)]]⟩ (by kernel_rfl) ⟨trivial, hg354, trivial⟩ ?_
                refine WO_nil rfl ?_
                refine thenS_n ?_
                refine W_region ?_
                refine guardO_e hv352 (fun hg355 hv352 => ?_)
                refine WO_step 6 [0, 1, 2, 6] [1, 5, 6, 7] (True ∧ ((0 = 0 ∧ x221.length = x221.length ∧ x221.length + (([(x2.getD i222.toNat drcd).who].drop 0).take ([(x2.getD i222.toNat drcd).who].length)).length ≤ 1099511627776) ∧ True)) ⟨[(1, .one (.e (.sl 1 0 x2.length))), (5, .one (.e (.sl 2 0 ((x220 ++ (([(⟨(x2.getD i222.toNat drcd).who, (x2.getD i222.toNat drcd).node, (x2.getD i222.toNat drcd).value, (x2.getD i222.toNat drcd).fin⟩ : Rcd)].drop 0).take ([(⟨(x2.getD i222.toNat drcd).who, (x2.getD i222.toNat drcd).node, (x2.getD i222.toNat drcd).value, (x2.getD i222.toNat drcd).fin⟩ : Rcd)].length))).length)))), (6, .one (.e (.sl 3 0 ((x221 ++ (([(x2.getD i222.toNat drcd).who].drop 0).take ([(x2.getD i222.toNat drcd).who].length))).length)))), (7, I i222)], [.row .nod x1 false, .row .rcd x2 false, .row .rcd (x220 ++ (([(⟨(x2.getD i222.toNat drcd).who, (x2.getD i222.toNat drcd).node, (x2.getD i222.toNat drcd).value, (x2.getD i222.toNat drcd).fin⟩ : Rcd)].drop 0).take ([(⟨(x2.getD i222.toNat drcd).who, (x2.getD i222.toNat drcd).node, (x2.getD i222.toNat drcd).value, (x2.getD i222.toNat drcd).fin⟩ : Rcd)].length))) true, .row .int (x221 ++ (([(x2.getD i222.toNat drcd).who].drop 0).take ([(x2.getD i222.toNat drcd).who].length))) true]⟩ (by kernel_rfl) ⟨trivial, hg355, trivial⟩ ?_
                refine WO_nil rfl ?_
                cases hv352
                exact And.intro rfl rfl
              · refine W_sub [0, 1, 2, 3] [1, 5, 6, 7] (st' := ⟨[(1, .one (.e (.sl 1 0 x2.length))), (5, .one (.e (.sl 2 0 x220.length))), (6, .one (.e (.sl 3 0 x221.length))), (7, I i222)], [.row .nod x1 false, .row .rcd x2 false, .row .rcd x220 true, .row .int x221 true]⟩) (by kernel_rfl) ?_
                refine W_skip ?_
                cases hv352
                exact And.intro rfl rfl
            · obtain ⟨x350, x351⟩ := v352
              rintro _ _ ⟨rfl, rfl⟩
              refine blockS_n ?_
              cases hv311
              exact And.intro rfl rfl
      · obtain ⟨x309, x310⟩ := v311
        rintro _ _ ⟨rfl, rfl⟩
        refine thenS_n ?_
        refine W_region ?_
        refine WO_step 3 [0, 1, 2, 3] [1, 5, 6, 7] (True ∧ True) ⟨[(1, .one (.e (.sl 1 0 x2.length))), (5, .one (.e (.sl 2 0 x309.length))), (6, .one (.e (.sl 3 0 x310.length))), (7, I (w64 (i222 + 1)))], [.row .nod x1 false, .row .rcd x2 false, .row .rcd x309 true, .row .int x310 true]⟩ (by kernel_rfl) ⟨trivial, trivial⟩ ?_
        refine WO_nil rfl ?_
        refine thenS_n ?_
        exact ih _ _ _ h
    · refine W_sub [0, 1, 2] [5] (st' := ⟨[(5, .one (.e (.sl 2 0 x220.length)))], [.row .nod x1 false, .row .rcd x2 false, .row .rcd x220 true]⟩) (by kernel_rfl) ?_
      refine W_exit ?_
      refine thenS_e ?_
      refine thenS_e ?_
      cases h
      exact And.intro rfl rfl

def spec_ShortLog (n : Nat) (x1 : List Nod) (x2 : List Rcd) : Option ((List Rcd)) :=
 bindO (spec_validTree n x1) fun b158 =>
 bindO (iteO (!b158)
 (some true)
 (bindO (spec_validLog n x1 x2) fun b166 =>
 some (!b166))) fun b163 =>
 iteO b163
 (some ([] : List Rcd))
 (bindO (spec_ShortLog_L1 x2 x1 n ([] : List Rcd) ([] : List Int) 0) fun x268 =>
 some x268)

theorem spec_ShortLog_ok (n : Nat) (x1 : List Nod) (x2 : List Rcd) (x157 : List Rcd) (h : spec_ShortLog n x1 x2 = some x157) : FOk EE 25 [.one (.e (.sl 0 0 x1.length)), .one (.e (.sl 1 0 x2.length))] [.row .nod x1 false, .row .rcd x2 false] (.one (.e (.sl 2 0 x157.length))) [.row .nod x1 false, .row .rcd x2 false, .row .rcd x157 true] := by
  unfold spec_ShortLog at h
  refine FOk_of_W 66 2 Try.func25 rfl rfl (Nat.le_of_ble_eq_true rfl) rfl (fun w X θ => ?_)
  refine W_seq ?_
  refine W_region ?_
  refine WO_step 1 [0, 1] [0, 1] True ⟨[(0, .one (.e (.sl 0 0 x1.length))), (1, .one (.e (.sl 1 0 x2.length)))], [.row .nod x1 false, .row .rcd x2 false]⟩ (by kernel_rfl) trivial ?_
  refine WO_nil rfl ?_
  refine thenS_n ?_
  refine W_seq ?_
  refine W_region ?_
  refine WO_step 2 [0, 1, 2] [0, 1, 5] True ⟨[(0, .one (.e (.sl 0 0 x1.length))), (1, .one (.e (.sl 1 0 x2.length))), (5, .one (.e (.sl 2 0 (([] : List Rcd).length))))], [.row .nod x1 false, .row .rcd x2 false, .row .rcd ([] : List Rcd) true]⟩ (by kernel_rfl) trivial ?_
  refine WO_nil rfl ?_
  refine thenS_n ?_
  refine W_seq ?_
  refine W_seq ?_
  refine W_region ?_
  refine WO_step 1 [0, 1, 2] [0, 1, 5, 10] True ⟨[(0, .one (.e (.sl 0 0 x1.length))), (1, .one (.e (.sl 1 0 x2.length))), (5, .one (.e (.sl 2 0 (([] : List Rcd).length)))), (10, .one (.e (.sl 0 0 x1.length)))], [.row .nod x1 false, .row .rcd x2 false, .row .rcd ([] : List Rcd) true]⟩ (by kernel_rfl) trivial ?_
  refine bindO_e h (fun b158 hc159 h => ?_)
  refine WO_call [.ro 0] Try.f42 rfl rfl rfl (by kernel_rfl) rfl rfl (by kernel_rfl) (spec_validTree_ok n x1 b158 hc159) (And.intro (And.intro rfl rfl) (trivial)) rfl ?_
  refine WO_step 2 [0, 1, 2] [0, 1, 5, 13] True ⟨[(0, .one (.e (.sl 0 0 x1.length))), (1, .one (.e (.sl 1 0 x2.length))), (5, .one (.e (.sl 2 0 (([] : List Rcd).length)))), (13, B (!b158))], [.row .nod x1 false, .row .rcd x2 false, .row .rcd ([] : List Rcd) true]⟩ (by kernel_rfl) trivial ?_
  refine bindO_e h (fun b163 hv164 h => ?_)
  refine WO_thru ⟨[(1, .one (.e (.sl 1 0 x2.length))), (5, .one (.e (.sl 2 0 (([] : List Rcd).length)))), (18, B b163)], [.row .nod x1 false, .row .rcd x2 false, .row .rcd ([] : List Rcd) true]⟩ ?_ ?_
  · refine iteO_e hv164 (fun hb165 hv164 => WO_known 13 true rfl hb165 ?_) (fun hb165 hv164 => WO_known 13 false rfl hb165 ?_)
    · refine WO_step 5 [0, 1, 2] [1, 5, 18] True ⟨[(1, .one (.e (.sl 1 0 x2.length))), (5, .one (.e (.sl 2 0 (([] : List Rcd).length)))), (18, B true)], [.row .nod x1 false, .row .rcd x2 false, .row .rcd ([] : List Rcd) true]⟩ (by kernel_rfl) trivial ?_
      cases hv164
      exact WO_nil rfl ⟨rfl, rfl⟩
    · refine WO_step 2 [0, 1, 2] [1, 5, 13, 14, 15] True ⟨[(1, .one (.e (.sl 1 0 x2.length))), (5, .one (.e (.sl 2 0 (([] : List Rcd).length)))), (13, B false), (14, .one (.e (.sl 0 0 x1.length))), (15, .one (.e (.sl 1 0 x2.length)))], [.row .nod x1 false, .row .rcd x2 false, .row .rcd ([] : List Rcd) true]⟩ (by kernel_rfl) trivial ?_
      refine bindO_e hv164 (fun b166 hc167 hv164 => ?_)
      refine WO_call [.ro 0, .ro 1] Try.f43 rfl rfl rfl (by kernel_rfl) rfl rfl (by kernel_rfl) (spec_validLog_ok n x1 x2 b166 hc167) (And.intro (And.intro rfl rfl) (And.intro (And.intro rfl rfl) (trivial))) rfl ?_
      refine WO_step 2 [0, 1, 2] [1, 5, 18] True ⟨[(1, .one (.e (.sl 1 0 x2.length))), (5, .one (.e (.sl 2 0 (([] : List Rcd).length)))), (18, B (!b166))], [.row .nod x1 false, .row .rcd x2 false, .row .rcd ([] : List Rcd) true]⟩ (by kernel_rfl) trivial ?_
      cases hv164
      exact WO_nil rfl ⟨rfl, rfl⟩
  · refine thenS_n ?_
    refine iteO_e h (fun hb169 h => W_true rfl hb169 ?_) (fun hb169 h => W_false rfl hb169 ?_)
    · refine W_seq ?_
      refine W_region ?_
      refine WO_step 1 [0, 1] [4] True ⟨[(4, .one (.e (.nsl)))], [.row .nod x1 false, .row .rcd x2 false]⟩ (by kernel_rfl) trivial ?_
      refine WO_nilrow 4 .rcd rfl ?_
      refine WO_sub [0, 1, 2] [4] (st' := ⟨[(4, .one (.e (.sl 2 0 (([] : List Rcd).length))))], [.row .nod x1 false, .row .rcd x2 false, .row .rcd ([] : List Rcd) true]⟩) (by kernel_rfl) ?_
      refine WO_nil rfl ?_
      refine thenS_n ?_
      refine W_ret ?_
      refine thenS_r ?_
      cases h
      exact ⟨[0, 1, 2], True, by kernel_rfl, trivial⟩
    · refine W_sub [0, 1, 2] [1, 5] (st' := ⟨[(1, .one (.e (.sl 1 0 x2.length))), (5, .one (.e (.sl 2 0 (([] : List Rcd).length))))], [.row .nod x1 false, .row .rcd x2 false, .row .rcd ([] : List Rcd) true]⟩) (by kernel_rfl) ?_
      refine W_skip ?_
      refine thenS_n ?_
      refine W_seq ?_
      refine W_region ?_
      refine WO_step 2 [0, 1, 2, 3] [1, 5, 6] True ⟨[(1, .one (.e (.sl 1 0 x2.length))), (5, .one (.e (.sl 2 0 (([] : List Rcd).length)))), (6, .one (.e (.sl 3 0 (([] : List Int).length))))], [.row .nod x1 false, .row .rcd x2 false, .row .rcd ([] : List Rcd) true, .row .int ([] : List Int) true]⟩ (by kernel_rfl) trivial ?_
      refine WO_nil rfl ?_
      refine thenS_n ?_
      refine W_seq ?_
      refine W_seq ?_
      refine W_region ?_
      refine WO_step 1 [0, 1, 2, 3] [1, 5, 6, 7] True ⟨[(1, .one (.e (.sl 1 0 x2.length))), (5, .one (.e (.sl 2 0 (([] : List Rcd).length)))), (6, .one (.e (.sl 3 0 (([] : List Int).length)))), (7, I 0)], [.row .nod x1 false, .row .rcd x2 false, .row .rcd ([] : List Rcd) true, .row .int ([] : List Int) true]⟩ (by kernel_rfl) trivial ?_
      refine WO_nil rfl ?_
      refine thenS_n ?_
      refine W_block ?_
      refine W_loop ?_
      refine bindO_e h (fun x268 hx268 h => ?_)
      refine WL_cut (spec_ShortLog_L1_ok w X θ x2 x1 x268 n ([] : List Rcd) ([] : List Int) 0 hx268) ?_
      rintro _ _ ⟨rfl, rfl⟩
      refine blockS_y ?_
      refine thenS_n ?_
      refine W_seq ?_
      refine W_region ?_
      refine WO_step 2 [0, 1, 2] [4] True ⟨[(4, .one (.e (.sl 2 0 x268.length)))], [.row .nod x1 false, .row .rcd x2 false, .row .rcd x268 true]⟩ (by kernel_rfl) trivial ?_
      refine WO_nil rfl ?_
      refine thenS_n ?_
      refine W_ret ?_
      cases h
      exact ⟨[0, 1, 2], True, by kernel_rfl, trivial⟩

/- laws.equalRecords -/
def laws_equalRecords_L1 (x1 : List Rcd) (x2 : List Rcd) : Nat → Int → Option ((Unit) ⊕ (Unit))
| 0, _ => none
| n + 1, i57 =>
 iteO (decide (i57 < ((x1.length : Nat) : Int)))
 (guardO (0 ≤ i57 ∧ i57 < ((x1.length : Nat) : Int)) <|
 guardO (0 ≤ i57 ∧ i57 < ((x2.length : Nat) : Int)) <|
 iteO (!((decide (((x1.getD i57.toNat drcd).who) = ((x2.getD i57.toNat drcd).who))) && ((decide (((x1.getD i57.toNat drcd).node) = ((x2.getD i57.toNat drcd).node))) && ((decide (((x1.getD i57.toNat drcd).value) = ((x2.getD i57.toNat drcd).value))) && ((((x1.getD i57.toNat drcd).fin) == ((x2.getD i57.toNat drcd).fin)) && true)))))
 (some (.inl ()))
 (laws_equalRecords_L1 x1 x2 n (w64 (i57 + 1))))
 (some (.inr ()))

theorem laws_equalRecords_L1_ok (w : World) (X : Nat → Prop) (θ : List Loc) (x1 : List Rcd) (x2 : List Rcd) (v : (Unit) ⊕ (Unit)) : ∀ (n : Nat) (i57 : Int), laws_equalRecords_L1 x1 x2 n i57 = some v → WL EE ⟨w, X, θ, 26, 2⟩ (subC [1, 1, 0, 1, 4, 4] (bodyC Try.f24)) (fun (e : Exit) (s : St) => (match v with | (.inl _) => e = .ret ∧ s = ⟨[(4, B false)], [.row .rcd x1 false, .row .rcd x2 false]⟩ | (.inr _) => e = .exit 0 ∧ s = ⟨[], [.row .rcd x1 false, .row .rcd x2 false]⟩ : Prop)) ⟨[(0, .one (.e (.sl 0 0 x1.length))), (1, .one (.e (.sl 1 0 x2.length))), (5, I i57)], [.row .rcd x1 false, .row .rcd x2 false]⟩ := by
  intro n
  induction n with
  | zero => intro _ h; exact none_e h
  | succ n ih =>
    intro i57 h
    rw [laws_equalRecords_L1] at h
    refine WL_round ?_
    refine W_seq ?_
    refine W_seq ?_
    refine W_region ?_
    refine WO_step 4 [0, 1] [0, 1, 5, 14] (True ∧ (True ∧ True)) ⟨[(0, .one (.e (.sl 0 0 x1.length))), (1, .one (.e (.sl 1 0 x2.length))), (5, I i57), (14, B (decide (i57 < ((x1.length : Nat) : Int))))], [.row .rcd x1 false, .row .rcd x2 false]⟩ (by kernel_rfl) ⟨trivial, trivial, trivial⟩ ?_
    refine WO_nil rfl ?_
    refine thenS_n ?_
    refine iteO_e h (fun hb71 h => W_true rfl hb71 ?_) (fun hb71 h => W_false rfl hb71 ?_)
    · refine W_sub [0, 1] [0, 1, 5] (st' := ⟨[(0, .one (.e (.sl 0 0 x1.length))), (1, .one (.e (.sl 1 0 x2.length))), (5, I i57)], [.row .rcd x1 false, .row .rcd x2 false]⟩) (by kernel_rfl) ?_
      refine W_skip ?_
      refine thenS_n ?_
      refine W_seq ?_
      refine W_block ?_
      refine W_seq ?_
      refine guardO_e h (fun hg76 h => ?_)
      refine guardO_e h (fun hg77 h => ?_)
      refine W_cut (Q' := fun (e : Exit) (s : St) => e = .normal ∧ s = ⟨[(0, .one (.e (.sl 0 0 x1.length))), (1, .one (.e (.sl 1 0 x2.length))), (5, I i57), (25, B (!((decide (((x1.getD i57.toNat drcd).who) = ((x2.getD i57.toNat drcd).who))) && ((decide (((x1.getD i57.toNat drcd).node) = ((x2.getD i57.toNat drcd).node))) && ((decide (((x1.getD i57.toNat drcd).value) = ((x2.getD i57.toNat drcd).value))) && ((((x1.getD i57.toNat drcd).fin) == ((x2.getD i57.toNat drcd).fin)) && true))))))], [.row .rcd x1 false, .row .rcd x2 false]⟩) ?_ ?_
      · refine W_draw [] true (by kernel_rfl) (by kernel_rfl) ?_
        refine WD_takeK [0, 1, 2, 3, 4, 5, 6, 7, 8] [0, 1, 5, 25] [0, 1, 5, 25] (φ := ((0 ≤ i57 ∧ i57 < ((x1.length : Nat) : Int)) ∧ (0 ≤ i57 ∧ i57 < ((x1.length : Nat) : Int)) ∧ (True ∧ True ∧ ((0 ≤ i57 ∧ i57 < ((x2.length : Nat) : Int)) ∧ (0 ≤ i57 ∧ i57 < ((x2.length : Nat) : Int)) ∧ (True ∧ True ∧ (True ∧ True ∧ True)))))) (ls' := #[true, true, true, true, true, true, true, true, true]) (Ts' := [(0, .one (.e (.sl 0 0 x1.length))), (1, .one (.e (.sl 1 0 x2.length))), (5, I i57), (25, B (!((decide (((x1.getD i57.toNat drcd).who) = ((x2.getD i57.toNat drcd).who))) && ((decide (((x1.getD i57.toNat drcd).node) = ((x2.getD i57.toNat drcd).node))) && ((decide (((x1.getD i57.toNat drcd).value) = ((x2.getD i57.toNat drcd).value))) && ((((x1.getD i57.toNat drcd).fin) == ((x2.getD i57.toNat drcd).fin)) && true))))))]) (st' := ⟨[(0, .one (.e (.sl 0 0 x1.length))), (1, .one (.e (.sl 1 0 x2.length))), (5, I i57), (25, B (!((decide (((x1.getD i57.toNat drcd).who) = ((x2.getD i57.toNat drcd).who))) && ((decide (((x1.getD i57.toNat drcd).node) = ((x2.getD i57.toNat drcd).node))) && ((decide (((x1.getD i57.toNat drcd).value) = ((x2.getD i57.toNat drcd).value))) && ((((x1.getD i57.toNat drcd).fin) == ((x2.getD i57.toNat drcd).fin)) && true))))))], [.row .rcd x1 false, .row .rcd x2 false]⟩) (n2 := 0) (by kernel_rfl) ⟨hg76, hg76, trivial, trivial, hg77, hg77, trivial, trivial, trivial, trivial, trivial⟩ rfl ?_
        exact WD_done [0, 1] [0, 1, 5, 25] (st' := ⟨[(0, .one (.e (.sl 0 0 x1.length))), (1, .one (.e (.sl 1 0 x2.length))), (5, I i57), (25, B (!((decide (((x1.getD i57.toNat drcd).who) = ((x2.getD i57.toNat drcd).who))) && ((decide (((x1.getD i57.toNat drcd).node) = ((x2.getD i57.toNat drcd).node))) && ((decide (((x1.getD i57.toNat drcd).value) = ((x2.getD i57.toNat drcd).value))) && ((((x1.getD i57.toNat drcd).fin) == ((x2.getD i57.toNat drcd).fin)) && true))))))], [.row .rcd x1 false, .row .rcd x2 false]⟩) (by kernel_rfl) (by kernel_rfl) (And.intro rfl rfl)
      · rintro _ _ ⟨rfl, rfl⟩
        refine thenS_n ?_
        refine iteO_e h (fun hb79 h => W_true rfl hb79 ?_) (fun hb79 h => W_false rfl hb79 ?_)
        · refine W_seq ?_
          refine W_region ?_
          refine WO_step 1 [0, 1] [4] True ⟨[(4, B false)], [.row .rcd x1 false, .row .rcd x2 false]⟩ (by kernel_rfl) trivial ?_
          refine WO_nil rfl ?_
          refine thenS_n ?_
          refine W_ret ?_
          refine blockS_r ?_
          refine thenS_r ?_
          refine thenS_r ?_
          cases h
          exact And.intro rfl rfl
        · refine W_sub [0, 1] [0, 1, 5] (st' := ⟨[(0, .one (.e (.sl 0 0 x1.length))), (1, .one (.e (.sl 1 0 x2.length))), (5, I i57)], [.row .rcd x1 false, .row .rcd x2 false]⟩) (by kernel_rfl) ?_
          refine W_skip ?_
          refine blockS_n ?_
          refine thenS_n ?_
          refine W_region ?_
          refine WO_step 3 [0, 1] [0, 1, 5] (True ∧ True) ⟨[(0, .one (.e (.sl 0 0 x1.length))), (1, .one (.e (.sl 1 0 x2.length))), (5, I (w64 (i57 + 1)))], [.row .rcd x1 false, .row .rcd x2 false]⟩ (by kernel_rfl) ⟨trivial, trivial⟩ ?_
          refine WO_nil rfl ?_
          refine thenS_n ?_
          exact ih _ h
    · refine W_sub [0, 1] [] (st' := ⟨[], [.row .rcd x1 false, .row .rcd x2 false]⟩) (by kernel_rfl) ?_
      refine W_exit ?_
      refine thenS_e ?_
      refine thenS_e ?_
      cases h
      exact And.intro rfl rfl

def laws_equalRecords (n : Nat) (x1 : List Rcd) (x2 : List Rcd) : Option (Bool) :=
 iteO (!decide (((x1.length : Nat) : Int) = ((x2.length : Nat) : Int)))
 (some false)
 (bindO (laws_equalRecords_L1 x1 x2 n 0) fun v80 =>
 match v80 with
 | (.inl _) => (some false)
 | (.inr _) => (some true)
)

theorem laws_equalRecords_ok (n : Nat) (x1 : List Rcd) (x2 : List Rcd) (b41 : Bool) (h : laws_equalRecords n x1 x2 = some b41) : FOk EE 24 [.one (.e (.sl 0 0 x1.length)), .one (.e (.sl 1 0 x2.length))] [.row .rcd x1 false, .row .rcd x2 false] (B b41) [.row .rcd x1 false, .row .rcd x2 false] := by
  unfold laws_equalRecords at h
  refine FOk_of_W 26 2 Try.func24 rfl rfl (Nat.le_of_ble_eq_true rfl) rfl (fun w X θ => ?_)
  refine W_seq ?_
  refine W_region ?_
  refine WO_step 1 [0, 1] [0, 1] True ⟨[(0, .one (.e (.sl 0 0 x1.length))), (1, .one (.e (.sl 1 0 x2.length)))], [.row .rcd x1 false, .row .rcd x2 false]⟩ (by kernel_rfl) trivial ?_
  refine WO_nil rfl ?_
  refine thenS_n ?_
  refine W_seq ?_
  refine W_seq ?_
  refine W_region ?_
  refine WO_step 5 [0, 1] [0, 1, 10] (True ∧ (True ∧ (True ∧ True))) ⟨[(0, .one (.e (.sl 0 0 x1.length))), (1, .one (.e (.sl 1 0 x2.length))), (10, B (!decide (((x1.length : Nat) : Int) = ((x2.length : Nat) : Int))))], [.row .rcd x1 false, .row .rcd x2 false]⟩ (by kernel_rfl) ⟨trivial, trivial, trivial, trivial⟩ ?_
  refine WO_nil rfl ?_
  refine thenS_n ?_
  refine iteO_e h (fun hb43 h => W_true rfl hb43 ?_) (fun hb43 h => W_false rfl hb43 ?_)
  · refine W_seq ?_
    refine W_region ?_
    refine WO_step 1 [0, 1] [4] True ⟨[(4, B false)], [.row .rcd x1 false, .row .rcd x2 false]⟩ (by kernel_rfl) trivial ?_
    refine WO_nil rfl ?_
    refine thenS_n ?_
    refine W_ret ?_
    refine thenS_r ?_
    cases h
    exact ⟨[0, 1], True, by kernel_rfl, trivial⟩
  · refine W_sub [0, 1] [0, 1] (st' := ⟨[(0, .one (.e (.sl 0 0 x1.length))), (1, .one (.e (.sl 1 0 x2.length)))], [.row .rcd x1 false, .row .rcd x2 false]⟩) (by kernel_rfl) ?_
    refine W_skip ?_
    refine thenS_n ?_
    refine W_seq ?_
    refine W_seq ?_
    refine W_region ?_
    refine WO_step 1 [0, 1] [0, 1, 5] True ⟨[(0, .one (.e (.sl 0 0 x1.length))), (1, .one (.e (.sl 1 0 x2.length))), (5, I 0)], [.row .rcd x1 false, .row .rcd x2 false]⟩ (by kernel_rfl) trivial ?_
    refine WO_nil rfl ?_
    refine thenS_n ?_
    refine W_block ?_
    refine W_loop ?_
    refine bindO_e h (fun v80 hv80 h => ?_)
    refine WL_cut (laws_equalRecords_L1_ok w X θ x1 x2 v80 n 0 hv80) ?_
    rcases v80 with _ | _
    · rintro _ _ ⟨rfl, rfl⟩
      refine blockS_r ?_
      refine thenS_r ?_
      cases h
      exact ⟨[0, 1], True, by kernel_rfl, trivial⟩
    · rintro _ _ ⟨rfl, rfl⟩
      refine blockS_y ?_
      refine thenS_n ?_
      refine W_seq ?_
      refine W_region ?_
      refine WO_step 1 [0, 1] [4] True ⟨[(4, B true)], [.row .rcd x1 false, .row .rcd x2 false]⟩ (by kernel_rfl) trivial ?_
      refine WO_nil rfl ?_
      refine thenS_n ?_
      refine W_ret ?_
      cases h
      exact ⟨[0, 1], True, by kernel_rfl, trivial⟩

/- laws.FnShortLogTwice -/
def laws_FnShortLogTwice_L2 (k377 : Nat) (k378 : Nat) (x380 : List Rcd) (i509 : Int) (x1 : List Int) (x375 : List Nod) : Nat → Int → Option ((Unit) ⊕ (Unit))
| 0, _ => none
| n + 1, i691 =>
 iteO (decide (i691 < i509))
 (guardO (0 ≤ i509 ∧ i509 < ((x380.length : Nat) : Int)) <|
 bindO (iteO (!(x380.getD i509.toNat drcd).fin)
 (guardO (0 ≤ i691 ∧ i691 < ((x380.length : Nat) : Int)) <|
 iteO (!(x380.getD i691.toNat drcd).fin)
 (guardO (0 ≤ i509 ∧ i509 < ((x380.length : Nat) : Int)) <|
 guardO (0 ≤ i691 ∧ i691 < ((x380.length : Nat) : Int)) <|
 some (decide (((x380.getD i509.toNat drcd).node) = ((x380.getD i691.toNat drcd).node))))
 (some false))
 (some false)) fun b734 =>
 iteO b734
 (some (.inl ()))
 (laws_FnShortLogTwice_L2 k377 k378 x380 i509 x1 x375 n (w64 (i691 + 1))))
 (some (.inr ()))

theorem laws_FnShortLogTwice_L2_ok (w : World) (X : Nat → Prop) (θ : List Loc) (k377 : Nat) (k378 : Nat) (x380 : List Rcd) (i509 : Int) (x1 : List Int) (x375 : List Nod) (v : (Unit) ⊕ (Unit)) : ∀ (n : Nat) (i691 : Int), laws_FnShortLogTwice_L2 k377 k378 x380 i509 x1 x375 n i691 = some v → WL EE ⟨w, X, θ, 79, 1⟩ (subC [1, 1, 1, 1, 1, 0, 1, 4, 4, 1, 0, 4, 1, 4, 4] (bodyC Try.f7)) (fun (e : Exit) (s : St) => (match v with | (.inl _) => e = .ret ∧ s = ⟨[(2, B false)], [.row .u8 x1 false]⟩ | (.inr _) => e = .exit 2 ∧ s = ⟨[(3, .one (.e (.sl 1 k377 k378))), (5, .one (.e (.sl 2 0 x380.length))), (6, I i509)], [.row .u8 x1 false, .row .nod x375 true, .row .rcd x380 true]⟩ : Prop)) ⟨[(3, .one (.e (.sl 1 k377 k378))), (5, .one (.e (.sl 2 0 x380.length))), (6, I i509), (7, I i691)], [.row .u8 x1 false, .row .nod x375 true, .row .rcd x380 true]⟩ := by
  intro n
  induction n with
  | zero => intro _ h; exact none_e h
  | succ n ih =>
    intro i691 h
    rw [laws_FnShortLogTwice_L2] at h
    refine WL_round ?_
    refine W_seq ?_
    refine W_seq ?_
    refine W_region ?_
    refine WO_step 3 [0, 1, 2] [3, 5, 6, 7, 44] (True ∧ True) ⟨[(3, .one (.e (.sl 1 k377 k378))), (5, .one (.e (.sl 2 0 x380.length))), (6, I i509), (7, I i691), (44, B (decide (i691 < i509)))], [.row .u8 x1 false, .row .nod x375 true, .row .rcd x380 true]⟩ (by kernel_rfl) ⟨trivial, trivial⟩ ?_
    refine WO_nil rfl ?_
    refine thenS_n ?_
    refine iteO_e h (fun hb717 h => W_true rfl hb717 ?_) (fun hb717 h => W_false rfl hb717 ?_)
    · refine W_sub [0, 1, 2] [3, 5, 6, 7] (st' := ⟨[(3, .one (.e (.sl 1 k377 k378))), (5, .one (.e (.sl 2 0 x380.length))), (6, I i509), (7, I i691)], [.row .u8 x1 false, .row .nod x375 true, .row .rcd x380 true]⟩) (by kernel_rfl) ?_
      refine W_skip ?_
      refine thenS_n ?_
      refine W_seq ?_
      refine W_block ?_
      refine W_seq ?_
      refine guardO_e h (fun hg728 h => ?_)
      refine bindO_e h (fun b734 hv735 h => ?_)
      refine W_cut (Q' := fun (e : Exit) (s : St) => e = .normal ∧ s = ⟨[(3, .one (.e (.sl 1 k377 k378))), (5, .one (.e (.sl 2 0 x380.length))), (6, I i509), (7, I i691), (73, B b734)], [.row .u8 x1 false, .row .nod x375 true, .row .rcd x380 true]⟩) ?_ ?_
      · refine iteO_e hv735 (fun hb729 hv735 => ?_) (fun hb729 hv735 => ?_)
        · refine guardO_e hv735 (fun hg730 hv735 => ?_)
          refine iteO_e hv735 (fun hb731 hv735 => ?_) (fun hb731 hv735 => ?_)
          · refine guardO_e hv735 (fun hg732 hv735 => ?_)
            refine guardO_e hv735 (fun hg733 hv735 => ?_)
            refine W_draw [] true (by kernel_rfl) (by kernel_rfl) ?_
            refine WD_takeK [0, 1, 2, 3, 4, 5, 6] [3, 5, 6, 7, 53] [3, 5, 6, 7, 53] (φ := ((0 ≤ i509 ∧ i509 < ((x380.length : Nat) : Int)) ∧ (0 ≤ i509 ∧ i509 < ((x380.length : Nat) : Int)) ∧ (True ∧ True ∧ True))) (ls' := #[true, true, true, true, true, true, true, false, false, false, false, false, false, false, false, false, false, false, false, false, false, false, false, false, false, false, false]) (Ts' := [(3, .one (.e (.sl 1 k377 k378))), (5, .one (.e (.sl 2 0 x380.length))), (6, I i509), (7, I i691), (53, B (!(x380.getD i509.toNat drcd).fin))]) (st' := ⟨[(3, .one (.e (.sl 1 k377 k378))), (5, .one (.e (.sl 2 0 x380.length))), (6, I i509), (7, I i691), (53, B (!(x380.getD i509.toNat drcd).fin))], [.row .u8 x1 false, .row .nod x375 true, .row .rcd x380 true]⟩) (n2 := 20) (by kernel_rfl) ⟨hg728, hg728, trivial, trivial, trivial⟩ rfl ?_
            refine WD_known 53 true rfl rfl hb729 ?_
            refine WD_takeK [7, 8, 9, 10, 11, 12, 13, 14] [3, 5, 6, 7, 61] [3, 5, 6, 7, 61] (φ := ((0 ≤ i691 ∧ i691 < ((x380.length : Nat) : Int)) ∧ (0 ≤ i691 ∧ i691 < ((x380.length : Nat) : Int)) ∧ (True ∧ True ∧ True))) (ls' := #[true, true, true, true, true, true, true, true, true, true, true, true, true, true, true, false, false, false, false, false, false, false, false, false, false, false, false]) (Ts' := [(3, .one (.e (.sl 1 k377 k378))), (5, .one (.e (.sl 2 0 x380.length))), (6, I i509), (7, I i691), (61, B (!(x380.getD i691.toNat drcd).fin))]) (st' := ⟨[(3, .one (.e (.sl 1 k377 k378))), (5, .one (.e (.sl 2 0 x380.length))), (6, I i509), (7, I i691), (61, B (!(x380.getD i691.toNat drcd).fin))], [.row .u8 x1 false, .row .nod x375 true, .row .rcd x380 true]⟩) (n2 := 12) (by kernel_rfl) ⟨hg730, hg730, trivial, trivial, trivial⟩ rfl ?_
            refine WD_known 61 true rfl rfl hb731 ?_
            refine WD_takeK [15, 16, 17, 18, 19, 20, 21, 22, 23, 24, 25, 26] [3, 5, 6, 7, 73] [3, 5, 6, 7, 73] (φ := ((0 ≤ i509 ∧ i509 < ((x380.length : Nat) : Int)) ∧ (0 ≤ i509 ∧ i509 < ((x380.length : Nat) : Int)) ∧ (True ∧ True ∧ ((0 ≤ i691 ∧ i691 < ((x380.length : Nat) : Int)) ∧ (0 ≤ i691 ∧ i691 < ((x380.length : Nat) : Int)) ∧ (True ∧ True ∧ (True ∧ True ∧ True)))))) (ls' := #[true, true, true, true, true, true, true, true, true, true, true, true, true, true, true, true, true, true, true, true, true, true, true, true, true, true, true]) (Ts' := [(3, .one (.e (.sl 1 k377 k378))), (5, .one (.e (.sl 2 0 x380.length))), (6, I i509), (7, I i691), (73, B (decide (((x380.getD i509.toNat drcd).node) = ((x380.getD i691.toNat drcd).node))))]) (st' := ⟨[(3, .one (.e (.sl 1 k377 k378))), (5, .one (.e (.sl 2 0 x380.length))), (6, I i509), (7, I i691), (73, B (decide (((x380.getD i509.toNat drcd).node) = ((x380.getD i691.toNat drcd).node))))], [.row .u8 x1 false, .row .nod x375 true, .row .rcd x380 true]⟩) (n2 := 0) (by kernel_rfl) ⟨hg732, hg732, trivial, trivial, hg733, hg733, trivial, trivial, trivial, trivial, trivial⟩ rfl ?_
            exact WD_done [0, 1, 2] [3, 5, 6, 7, 73] (st' := ⟨[(3, .one (.e (.sl 1 k377 k378))), (5, .one (.e (.sl 2 0 x380.length))), (6, I i509), (7, I i691), (73, B (decide (((x380.getD i509.toNat drcd).node) = ((x380.getD i691.toNat drcd).node))))], [.row .u8 x1 false, .row .nod x375 true, .row .rcd x380 true]⟩) (by kernel_rfl) (by kernel_rfl) (And.intro rfl (by cases hv735; rfl))
          · refine W_draw [] true (by kernel_rfl) (by kernel_rfl) ?_
            refine WD_takeK [0, 1, 2, 3, 4, 5, 6] [3, 5, 6, 7, 53] [3, 5, 6, 7, 53] (φ := ((0 ≤ i509 ∧ i509 < ((x380.length : Nat) : Int)) ∧ (0 ≤ i509 ∧ i509 < ((x380.length : Nat) : Int)) ∧ (True ∧ True ∧ True))) (ls' := #[true, true, true, true, true, true, true, false, false, false, false, false, false, false, false, false, false, false, false, false, false, false, false, false, false, false, false]) (Ts' := [(3, .one (.e (.sl 1 k377 k378))), (5, .one (.e (.sl 2 0 x380.length))), (6, I i509), (7, I i691), (53, B (!(x380.getD i509.toNat drcd).fin))]) (st' := ⟨[(3, .one (.e (.sl 1 k377 k378))), (5, .one (.e (.sl 2 0 x380.length))), (6, I i509), (7, I i691), (53, B (!(x380.getD i509.toNat drcd).fin))], [.row .u8 x1 false, .row .nod x375 true, .row .rcd x380 true]⟩) (n2 := 20) (by kernel_rfl) ⟨hg728, hg728, trivial, trivial, trivial⟩ rfl ?_
            refine WD_known 53 true rfl rfl hb729 ?_
            refine WD_takeK [7, 8, 9, 10, 11, 12, 13, 14] [3, 5, 6, 7, 61] [3, 5, 6, 7, 61] (φ := ((0 ≤ i691 ∧ i691 < ((x380.length : Nat) : Int)) ∧ (0 ≤ i691 ∧ i691 < ((x380.length : Nat) : Int)) ∧ (True ∧ True ∧ True))) (ls' := #[true, true, true, true, true, true, true, true, true, true, true, true, true, true, true, false, false, false, false, false, false, false, false, false, false, false, false]) (Ts' := [(3, .one (.e (.sl 1 k377 k378))), (5, .one (.e (.sl 2 0 x380.length))), (6, I i509), (7, I i691), (61, B (!(x380.getD i691.toNat drcd).fin))]) (st' := ⟨[(3, .one (.e (.sl 1 k377 k378))), (5, .one (.e (.sl 2 0 x380.length))), (6, I i509), (7, I i691), (61, B (!(x380.getD i691.toNat drcd).fin))], [.row .u8 x1 false, .row .nod x375 true, .row .rcd x380 true]⟩) (n2 := 12) (by kernel_rfl) ⟨hg730, hg730, trivial, trivial, trivial⟩ rfl ?_
            refine WD_known 61 false rfl rfl hb731 ?_
            refine WD_takeK [15, 16, 17, 18, 19, 20, 21, 22, 23, 24, 25, 26] [3, 5, 6, 7, 73] [3, 5, 6, 7, 73] (φ := True) (ls' := #[true, true, true, true, true, true, true, true, true, true, true, true, true, true, true, true, true, true, true, true, true, true, true, true, true, true, true]) (Ts' := [(3, .one (.e (.sl 1 k377 k378))), (5, .one (.e (.sl 2 0 x380.length))), (6, I i509), (7, I i691), (73, B false)]) (st' := ⟨[(3, .one (.e (.sl 1 k377 k378))), (5, .one (.e (.sl 2 0 x380.length))), (6, I i509), (7, I i691), (73, B false)], [.row .u8 x1 false, .row .nod x375 true, .row .rcd x380 true]⟩) (n2 := 0) (by kernel_rfl) trivial rfl ?_
            exact WD_done [0, 1, 2] [3, 5, 6, 7, 73] (st' := ⟨[(3, .one (.e (.sl 1 k377 k378))), (5, .one (.e (.sl 2 0 x380.length))), (6, I i509), (7, I i691), (73, B false)], [.row .u8 x1 false, .row .nod x375 true, .row .rcd x380 true]⟩) (by kernel_rfl) (by kernel_rfl) (And.intro rfl (by cases hv735; rfl))
        · refine W_draw [] true (by kernel_rfl) (by kernel_rfl) ?_
          refine WD_takeK [0, 1, 2, 3, 4, 5, 6] [3, 5, 6, 7, 53] [3, 5, 6, 7, 53] (φ := ((0 ≤ i509 ∧ i509 < ((x380.length : Nat) : Int)) ∧ (0 ≤ i509 ∧ i509 < ((x380.length : Nat) : Int)) ∧ (True ∧ True ∧ True))) (ls' := #[true, true, true, true, true, true, true, false, false, false, false, false, false, false, false, false, false, false, false, false, false, false, false, false, false, false, false]) (Ts' := [(3, .one (.e (.sl 1 k377 k378))), (5, .one (.e (.sl 2 0 x380.length))), (6, I i509), (7, I i691), (53, B (!(x380.getD i509.toNat drcd).fin))]) (st' := ⟨[(3, .one (.e (.sl 1 k377 k378))), (5, .one (.e (.sl 2 0 x380.length))), (6, I i509), (7, I i691), (53, B (!(x380.getD i509.toNat drcd).fin))], [.row .u8 x1 false, .row .nod x375 true, .row .rcd x380 true]⟩) (n2 := 20) (by kernel_rfl) ⟨hg728, hg728, trivial, trivial, trivial⟩ rfl ?_
          refine WD_known 53 false rfl rfl hb729 ?_
          refine WD_takeK [7, 8, 9, 10, 11, 12, 13, 14, 15, 16, 17, 18, 19, 20, 21, 22, 23, 24, 25, 26] [3, 5, 6, 7, 73] [3, 5, 6, 7, 73] (φ := True) (ls' := #[true, true, true, true, true, true, true, true, true, true, true, true, true, true, true, true, true, true, true, true, true, true, true, true, true, true, true]) (Ts' := [(3, .one (.e (.sl 1 k377 k378))), (5, .one (.e (.sl 2 0 x380.length))), (6, I i509), (7, I i691), (73, B false)]) (st' := ⟨[(3, .one (.e (.sl 1 k377 k378))), (5, .one (.e (.sl 2 0 x380.length))), (6, I i509), (7, I i691), (73, B false)], [.row .u8 x1 false, .row .nod x375 true, .row .rcd x380 true]⟩) (n2 := 0) (by kernel_rfl) trivial rfl ?_
          exact WD_done [0, 1, 2] [3, 5, 6, 7, 73] (st' := ⟨[(3, .one (.e (.sl 1 k377 k378))), (5, .one (.e (.sl 2 0 x380.length))), (6, I i509), (7, I i691), (73, B false)], [.row .u8 x1 false, .row .nod x375 true, .row .rcd x380 true]⟩) (by kernel_rfl) (by kernel_rfl) (And.intro rfl (by cases hv735; rfl))
      · rintro _ _ ⟨rfl, rfl⟩
        refine thenS_n ?_
        refine iteO_e h (fun hb737 h => W_true rfl hb737 ?_) (fun hb737 h => W_false rfl hb737 ?_)
        · refine W_seq ?_
          refine W_region ?_
          refine WO_step 1 [0] [2] True ⟨[(2, B false)], [.row .u8 x1 false]⟩ (by kernel_rfl) trivial ?_
          refine WO_nil rfl ?_
          refine thenS_n ?_
          refine W_ret ?_
          refine blockS_r ?_
          refine thenS_r ?_
          refine thenS_r ?_
          cases h
          exact And.intro rfl rfl
        · refine W_sub [0, 1, 2] [3, 5, 6, 7] (st' := ⟨[(3, .one (.e (.sl 1 k377 k378))), (5, .one (.e (.sl 2 0 x380.length))), (6, I i509), (7, I i691)], [.row .u8 x1 false, .row .nod x375 true, .row .rcd x380 true]⟩) (by kernel_rfl) ?_
          refine W_skip ?_
          refine blockS_n ?_
          refine thenS_n ?_
          refine W_region ?_
          refine WO_step 3 [0, 1, 2] [3, 5, 6, 7] (True ∧ True) ⟨[(3, .one (.e (.sl 1 k377 k378))), (5, .one (.e (.sl 2 0 x380.length))), (6, I i509), (7, I (w64 (i691 + 1)))], [.row .u8 x1 false, .row .nod x375 true, .row .rcd x380 true]⟩ (by kernel_rfl) ⟨trivial, trivial⟩ ?_
          refine WO_nil rfl ?_
          refine thenS_n ?_
          exact ih _ h
    · refine W_sub [0, 1, 2] [3, 5, 6] (st' := ⟨[(3, .one (.e (.sl 1 k377 k378))), (5, .one (.e (.sl 2 0 x380.length))), (6, I i509)], [.row .u8 x1 false, .row .nod x375 true, .row .rcd x380 true]⟩) (by kernel_rfl) ?_
      refine W_exit ?_
      refine thenS_e ?_
      refine thenS_e ?_
      cases h
      exact And.intro rfl rfl

def laws_FnShortLogTwice_L1 (k377 : Nat) (k378 : Nat) (x380 : List Rcd) (x1 : List Int) (x375 : List Nod) : Nat → Int → Option ((Unit) ⊕ (Unit))
| 0, _ => none
| n + 1, i509 =>
 iteO (decide (i509 < ((x380.length : Nat) : Int)))
 (bindO (laws_FnShortLogTwice_L2 k377 k378 x380 i509 x1 x375 n 0) fun v738 =>
 match v738 with
 | (.inl _) => (some (.inl ()))
 | (.inr _) => (laws_FnShortLogTwice_L1 k377 k378 x380 x1 x375 n (w64 (i509 + 1)))
)
 (some (.inr ()))

theorem laws_FnShortLogTwice_L1_ok (w : World) (X : Nat → Prop) (θ : List Loc) (k377 : Nat) (k378 : Nat) (x380 : List Rcd) (x1 : List Int) (x375 : List Nod) (v : (Unit) ⊕ (Unit)) : ∀ (n : Nat) (i509 : Int), laws_FnShortLogTwice_L1 k377 k378 x380 x1 x375 n i509 = some v → WL EE ⟨w, X, θ, 79, 1⟩ (subC [1, 1, 1, 1, 1, 0, 1, 4, 4] (bodyC Try.f7)) (fun (e : Exit) (s : St) => (match v with | (.inl _) => e = .ret ∧ s = ⟨[(2, B false)], [.row .u8 x1 false]⟩ | (.inr _) => e = .exit 0 ∧ s = ⟨[(3, .one (.e (.sl 1 k377 k378))), (5, .one (.e (.sl 2 0 x380.length)))], [.row .u8 x1 false, .row .nod x375 true, .row .rcd x380 true]⟩ : Prop)) ⟨[(3, .one (.e (.sl 1 k377 k378))), (5, .one (.e (.sl 2 0 x380.length))), (6, I i509)], [.row .u8 x1 false, .row .nod x375 true, .row .rcd x380 true]⟩ := by
  intro n
  induction n with
  | zero => intro _ h; exact none_e h
  | succ n ih =>
    intro i509 h
    rw [laws_FnShortLogTwice_L1] at h
    refine WL_round ?_
    refine W_seq ?_
    refine W_seq ?_
    refine W_region ?_
    refine WO_step 4 [0, 1, 2] [3, 5, 6, 39] (True ∧ (True ∧ True)) ⟨[(3, .one (.e (.sl 1 k377 k378))), (5, .one (.e (.sl 2 0 x380.length))), (6, I i509), (39, B (decide (i509 < ((x380.length : Nat) : Int))))], [.row .u8 x1 false, .row .nod x375 true, .row .rcd x380 true]⟩ (by kernel_rfl) ⟨trivial, trivial, trivial⟩ ?_
    refine WO_nil rfl ?_
    refine thenS_n ?_
    refine iteO_e h (fun hb615 h => W_true rfl hb615 ?_) (fun hb615 h => W_false rfl hb615 ?_)
    · refine W_sub [0, 1, 2] [3, 5, 6] (st' := ⟨[(3, .one (.e (.sl 1 k377 k378))), (5, .one (.e (.sl 2 0 x380.length))), (6, I i509)], [.row .u8 x1 false, .row .nod x375 true, .row .rcd x380 true]⟩) (by kernel_rfl) ?_
      refine W_skip ?_
      refine thenS_n ?_
      refine W_seq ?_
      refine W_block ?_
      refine W_seq ?_
      refine W_region ?_
      refine WO_step 1 [0, 1, 2] [3, 5, 6, 7] True ⟨[(3, .one (.e (.sl 1 k377 k378))), (5, .one (.e (.sl 2 0 x380.length))), (6, I i509), (7, I 0)], [.row .u8 x1 false, .row .nod x375 true, .row .rcd x380 true]⟩ (by kernel_rfl) trivial ?_
      refine WO_nil rfl ?_
      refine thenS_n ?_
      refine W_block ?_
      refine W_loop ?_
      refine bindO_e h (fun v738 hv738 h => ?_)
      refine WL_cut (laws_FnShortLogTwice_L2_ok w X θ k377 k378 x380 i509 x1 x375 v738 n 0 hv738) ?_
      rcases v738 with _ | _
      · rintro _ _ ⟨rfl, rfl⟩
        refine blockS_r ?_
        refine blockS_r ?_
        refine thenS_r ?_
        refine thenS_r ?_
        cases h
        exact And.intro rfl rfl
      · rintro _ _ ⟨rfl, rfl⟩
        refine blockS_y ?_
        refine blockS_n ?_
        refine thenS_n ?_
        refine W_region ?_
        refine WO_step 3 [0, 1, 2] [3, 5, 6] (True ∧ True) ⟨[(3, .one (.e (.sl 1 k377 k378))), (5, .one (.e (.sl 2 0 x380.length))), (6, I (w64 (i509 + 1)))], [.row .u8 x1 false, .row .nod x375 true, .row .rcd x380 true]⟩ (by kernel_rfl) ⟨trivial, trivial⟩ ?_
        refine WO_nil rfl ?_
        refine thenS_n ?_
        exact ih _ h
    · refine W_sub [0, 1, 2] [3, 5] (st' := ⟨[(3, .one (.e (.sl 1 k377 k378))), (5, .one (.e (.sl 2 0 x380.length)))], [.row .u8 x1 false, .row .nod x375 true, .row .rcd x380 true]⟩) (by kernel_rfl) ?_
      refine W_exit ?_
      refine thenS_e ?_
      refine thenS_e ?_
      cases h
      exact And.intro rfl rfl

def laws_FnShortLogTwice (n : Nat) (x1 : List Int) : Option (Bool) :=
 iteO (decide (1048576 < ((x1.length : Nat) : Int)))
 (some true)
 (bindO (spec_DrawShortLog n x1) fun (x375, x376, k377, k378) =>
 bindO (impl_ShortLog n ((x375.drop k377).take k378) x376) fun x380 =>
 bindO (spec_ShortLog n ((x375.drop k377).take k378) x376) fun x382 =>
 bindO (laws_equalRecords n x380 x382) fun b384 =>
 bindO (iteO (!b384)
 (some true)
 (bindO (impl_ValidLog n ((x375.drop k377).take k378) x376) fun b392 =>
 some (!b392))) fun b389 =>
 iteO b389
 (bindO (spec_ShortLog n ((x375.drop k377).take k378) x376) fun x400 =>
 bindO (laws_equalRecords n x380 x400) fun b402 =>
 some b402)
 (bindO (laws_FnShortLogTwice_L1 k377 k378 x380 x1 x375 n 0) fun v739 =>
 match v739 with
 | (.inl _) => (some false)
 | (.inr _) => (bindO (impl_ShortLog n ((x375.drop k377).take k378) x380) fun x740 =>
 bindO (laws_equalRecords n x740 x380) fun b742 =>
 some b742)
))

theorem laws_FnShortLogTwice_ok (n : Nat) (x1 : List Int) (b372 : Bool) (h : laws_FnShortLogTwice n x1 = some b372) : FOk EE 7 [.one (.e (.sl 0 0 x1.length))] [.row .u8 x1 false] (B b372) [.row .u8 x1 false] := by
  unfold laws_FnShortLogTwice at h
  refine FOk_of_W 79 1 Try.func7 rfl rfl (Nat.le_of_ble_eq_true rfl) rfl (fun w X θ => ?_)
  refine W_seq ?_
  refine W_region ?_
  refine WO_step 1 [0] [0] True ⟨[(0, .one (.e (.sl 0 0 x1.length)))], [.row .u8 x1 false]⟩ (by kernel_rfl) trivial ?_
  refine WO_nil rfl ?_
  refine thenS_n ?_
  refine W_seq ?_
  refine W_seq ?_
  refine W_region ?_
  refine WO_step 3 [0] [0, 10] (True ∧ (True ∧ True)) ⟨[(0, .one (.e (.sl 0 0 x1.length))), (10, B (decide (1048576 < ((x1.length : Nat) : Int))))], [.row .u8 x1 false]⟩ (by kernel_rfl) ⟨trivial, trivial, trivial⟩ ?_
  refine WO_nil rfl ?_
  refine thenS_n ?_
  refine iteO_e h (fun hb374 h => W_true rfl hb374 ?_) (fun hb374 h => W_false rfl hb374 ?_)
  · refine W_seq ?_
    refine W_region ?_
    refine WO_step 1 [0] [2] True ⟨[(2, B true)], [.row .u8 x1 false]⟩ (by kernel_rfl) trivial ?_
    refine WO_nil rfl ?_
    refine thenS_n ?_
    refine W_ret ?_
    refine thenS_r ?_
    cases h
    exact ⟨[0], True, by kernel_rfl, trivial⟩
  · refine W_sub [0] [0] (st' := ⟨[(0, .one (.e (.sl 0 0 x1.length)))], [.row .u8 x1 false]⟩) (by kernel_rfl) ?_
    refine W_skip ?_
    refine thenS_n ?_
    refine W_seq ?_
    refine W_region ?_
    refine WO_step 1 [0] [12] True ⟨[(12, .one (.e (.sl 0 0 x1.length)))], [.row .u8 x1 false]⟩ (by kernel_rfl) trivial ?_
    refine bindO_e h (fun v744 hc379 h => ?_)
    obtain ⟨x375, x376, k377, k378⟩ := v744
    refine WO_call [.ro 0] Try.f22 rfl rfl rfl (by kernel_rfl) rfl rfl (by kernel_rfl) (spec_DrawShortLog_ok n x1 x375 x376 k377 k378 hc379) (And.intro (And.intro rfl rfl) (trivial)) rfl ?_
    refine WO_step 5 [0, 1, 2] [3, 4] True ⟨[(3, .one (.e (.sl 1 k377 k378))), (4, .one (.e (.sl 2 0 x376.length)))], [.row .u8 x1 false, .row .nod x375 true, .row .rcd x376 true]⟩ (by kernel_rfl) trivial ?_
    refine WO_nil rfl ?_
    refine thenS_n ?_
    refine W_seq ?_
    refine W_region ?_
    refine WO_step 2 [0, 1, 2] [3, 4, 16, 17] True ⟨[(3, .one (.e (.sl 1 k377 k378))), (4, .one (.e (.sl 2 0 x376.length))), (16, .one (.e (.sl 1 k377 k378))), (17, .one (.e (.sl 2 0 x376.length)))], [.row .u8 x1 false, .row .nod x375 true, .row .rcd x376 true]⟩ (by kernel_rfl) trivial ?_
    refine bindO_e h (fun x380 hc381 h => ?_)
    refine WO_call [.view 0, .ro 2] Try.f23 rfl rfl rfl (by kernel_rfl) rfl rfl (by kernel_rfl) (impl_ShortLog_ok n ((x375.drop k377).take k378) x376 x380 hc381) (And.intro (And.intro rfl rfl) (trivial)) rfl ?_
    refine WO_step 1 [0, 1, 2, 3] [3, 4, 5] True ⟨[(3, .one (.e (.sl 1 k377 k378))), (4, .one (.e (.sl 2 0 x376.length))), (5, .one (.e (.sl 3 0 x380.length)))], [.row .u8 x1 false, .row .nod x375 true, .row .rcd x376 true, .row .rcd x380 true]⟩ (by kernel_rfl) trivial ?_
    refine WO_nil rfl ?_
    refine thenS_n ?_
    refine W_seq ?_
    refine W_seq ?_
    refine W_region ?_
    refine WO_step 3 [0, 1, 2, 3] [3, 4, 5, 19, 20, 21] True ⟨[(3, .one (.e (.sl 1 k377 k378))), (4, .one (.e (.sl 2 0 x376.length))), (5, .one (.e (.sl 3 0 x380.length))), (19, .one (.e (.sl 3 0 x380.length))), (20, .one (.e (.sl 1 k377 k378))), (21, .one (.e (.sl 2 0 x376.length)))], [.row .u8 x1 false, .row .nod x375 true, .row .rcd x376 true, .row .rcd x380 true]⟩ (by kernel_rfl) trivial ?_
    refine bindO_e h (fun x382 hc383 h => ?_)
    refine WO_call [.view 0, .ro 2] Try.f25 rfl rfl rfl (by kernel_rfl) rfl rfl (by kernel_rfl) (spec_ShortLog_ok n ((x375.drop k377).take k378) x376 x382 hc383) (And.intro (And.intro rfl rfl) (trivial)) rfl ?_
    refine WO_sub [0, 1, 2, 3, 4] [3, 4, 5, 19, 22] (st' := ⟨[(3, .one (.e (.sl 1 k377 k378))), (4, .one (.e (.sl 2 0 x376.length))), (5, .one (.e (.sl 3 0 x380.length))), (19, .one (.e (.sl 3 0 x380.length))), (22, .one (.e (.sl 4 0 x382.length)))], [.row .u8 x1 false, .row .nod x375 true, .row .rcd x376 true, .row .rcd x380 true, .row .rcd x382 true]⟩) (by kernel_rfl) ?_
    refine bindO_e h (fun b384 hc385 h => ?_)
    refine WO_call [.ro 3, .ro 4] Try.f24 rfl rfl rfl (by kernel_rfl) rfl rfl (by kernel_rfl) (laws_equalRecords_ok n x380 x382 b384 hc385) (And.intro (And.intro rfl rfl) (And.intro (And.intro rfl rfl) (trivial))) rfl ?_
    refine WO_step 2 [0, 1, 2, 3] [3, 4, 5, 25] True ⟨[(3, .one (.e (.sl 1 k377 k378))), (4, .one (.e (.sl 2 0 x376.length))), (5, .one (.e (.sl 3 0 x380.length))), (25, B (!b384))], [.row .u8 x1 false, .row .nod x375 true, .row .rcd x376 true, .row .rcd x380 true]⟩ (by kernel_rfl) trivial ?_
    refine bindO_e h (fun b389 hv390 h => ?_)
    refine WO_thru ⟨[(3, .one (.e (.sl 1 k377 k378))), (4, .one (.e (.sl 2 0 x376.length))), (5, .one (.e (.sl 3 0 x380.length))), (30, B b389)], [.row .u8 x1 false, .row .nod x375 true, .row .rcd x376 true, .row .rcd x380 true]⟩ ?_ ?_
    · refine iteO_e hv390 (fun hb391 hv390 => WO_known 25 true rfl hb391 ?_) (fun hb391 hv390 => WO_known 25 false rfl hb391 ?_)
      · refine WO_step 5 [0, 1, 2, 3] [3, 4, 5, 30] True ⟨[(3, .one (.e (.sl 1 k377 k378))), (4, .one (.e (.sl 2 0 x376.length))), (5, .one (.e (.sl 3 0 x380.length))), (30, B true)], [.row .u8 x1 false, .row .nod x375 true, .row .rcd x376 true, .row .rcd x380 true]⟩ (by kernel_rfl) trivial ?_
        cases hv390
        exact WO_nil rfl ⟨rfl, rfl⟩
      · refine WO_step 2 [0, 1, 2, 3] [3, 4, 5, 25, 26, 27] True ⟨[(3, .one (.e (.sl 1 k377 k378))), (4, .one (.e (.sl 2 0 x376.length))), (5, .one (.e (.sl 3 0 x380.length))), (25, B false), (26, .one (.e (.sl 1 k377 k378))), (27, .one (.e (.sl 2 0 x376.length)))], [.row .u8 x1 false, .row .nod x375 true, .row .rcd x376 true, .row .rcd x380 true]⟩ (by kernel_rfl) trivial ?_
        refine bindO_e hv390 (fun b392 hc393 hv390 => ?_)
        refine WO_call [.view 0, .ro 2] Try.f16 rfl rfl rfl (by kernel_rfl) rfl rfl (by kernel_rfl) (impl_ValidLog_ok n ((x375.drop k377).take k378) x376 b392 hc393) (And.intro (And.intro rfl rfl) (trivial)) rfl ?_
        refine WO_step 2 [0, 1, 2, 3] [3, 4, 5, 30] True ⟨[(3, .one (.e (.sl 1 k377 k378))), (4, .one (.e (.sl 2 0 x376.length))), (5, .one (.e (.sl 3 0 x380.length))), (30, B (!b392))], [.row .u8 x1 false, .row .nod x375 true, .row .rcd x376 true, .row .rcd x380 true]⟩ (by kernel_rfl) trivial ?_
        cases hv390
        exact WO_nil rfl ⟨rfl, rfl⟩
    · refine thenS_n ?_
      refine iteO_e h (fun hb399 h => W_true rfl hb399 ?_) (fun hb399 h => W_false rfl hb399 ?_)
      · refine W_seq ?_
        refine W_region ?_
        refine WO_step 3 [0, 3, 1, 2] [31, 32, 33] True ⟨[(31, .one (.e (.sl 1 0 x380.length))), (32, .one (.e (.sl 2 k377 k378))), (33, .one (.e (.sl 3 0 x376.length)))], [.row .u8 x1 false, .row .rcd x380 true, .row .nod x375 true, .row .rcd x376 true]⟩ (by kernel_rfl) trivial ?_
        refine bindO_e h (fun x400 hc401 h => ?_)
        refine WO_call [.view 0, .ro 3] Try.f25 rfl rfl rfl (by kernel_rfl) rfl rfl (by kernel_rfl) (spec_ShortLog_ok n ((x375.drop k377).take k378) x376 x400 hc401) (And.intro (And.intro rfl rfl) (trivial)) rfl ?_
        refine WO_sub [0, 1, 4] [31, 34] (st' := ⟨[(31, .one (.e (.sl 1 0 x380.length))), (34, .one (.e (.sl 2 0 x400.length)))], [.row .u8 x1 false, .row .rcd x380 true, .row .rcd x400 true]⟩) (by kernel_rfl) ?_
        refine bindO_e h (fun b402 hc403 h => ?_)
        refine WO_call [.ro 1, .ro 2] Try.f24 rfl rfl rfl (by kernel_rfl) rfl rfl (by kernel_rfl) (laws_equalRecords_ok n x380 x400 b402 hc403) (And.intro (And.intro rfl rfl) (And.intro (And.intro rfl rfl) (trivial))) rfl ?_
        refine WO_step 1 [0] [2] True ⟨[(2, B b402)], [.row .u8 x1 false]⟩ (by kernel_rfl) trivial ?_
        refine WO_nil rfl ?_
        refine thenS_n ?_
        refine W_ret ?_
        refine thenS_r ?_
        cases h
        exact ⟨[0], True, by kernel_rfl, trivial⟩
      · refine W_sub [0, 1, 3] [3, 5] (st' := ⟨[(3, .one (.e (.sl 1 k377 k378))), (5, .one (.e (.sl 2 0 x380.length)))], [.row .u8 x1 false, .row .nod x375 true, .row .rcd x380 true]⟩) (by kernel_rfl) ?_
        refine W_skip ?_
        refine thenS_n ?_
        refine W_seq ?_
        refine W_seq ?_
        refine W_region ?_
        refine WO_step 1 [0, 1, 2] [3, 5, 6] True ⟨[(3, .one (.e (.sl 1 k377 k378))), (5, .one (.e (.sl 2 0 x380.length))), (6, I 0)], [.row .u8 x1 false, .row .nod x375 true, .row .rcd x380 true]⟩ (by kernel_rfl) trivial ?_
        refine WO_nil rfl ?_
        refine thenS_n ?_
        refine W_block ?_
        refine W_loop ?_
        refine bindO_e h (fun v739 hv739 h => ?_)
        refine WL_cut (laws_FnShortLogTwice_L1_ok w X θ k377 k378 x380 x1 x375 v739 n 0 hv739) ?_
        rcases v739 with _ | _
        · rintro _ _ ⟨rfl, rfl⟩
          refine blockS_r ?_
          refine thenS_r ?_
          cases h
          exact ⟨[0], True, by kernel_rfl, trivial⟩
        · rintro _ _ ⟨rfl, rfl⟩
          refine blockS_y ?_
          refine thenS_n ?_
          refine W_seq ?_
          refine W_region ?_
          refine WO_step 2 [0, 2, 1] [5, 74, 75] True ⟨[(5, .one (.e (.sl 1 0 x380.length))), (74, .one (.e (.sl 2 k377 k378))), (75, .one (.e (.sl 1 0 x380.length)))], [.row .u8 x1 false, .row .rcd x380 true, .row .nod x375 true]⟩ (by kernel_rfl) trivial ?_
          refine bindO_e h (fun x740 hc741 h => ?_)
          refine WO_call [.view 0, .ro 1] Try.f23 rfl rfl rfl (by kernel_rfl) rfl rfl (by kernel_rfl) (impl_ShortLog_ok n ((x375.drop k377).take k378) x380 x740 hc741) (And.intro (And.intro rfl rfl) (trivial)) rfl ?_
          refine WO_step 1 [0, 3, 1] [76, 77] True ⟨[(76, .one (.e (.sl 1 0 x740.length))), (77, .one (.e (.sl 2 0 x380.length)))], [.row .u8 x1 false, .row .rcd x740 true, .row .rcd x380 true]⟩ (by kernel_rfl) trivial ?_
          refine bindO_e h (fun b742 hc743 h => ?_)
          refine WO_call [.ro 1, .ro 2] Try.f24 rfl rfl rfl (by kernel_rfl) rfl rfl (by kernel_rfl) (laws_equalRecords_ok n x740 x380 b742 hc743) (And.intro (And.intro rfl rfl) (And.intro (And.intro rfl rfl) (trivial))) rfl ?_
          refine WO_step 1 [0] [2] True ⟨[(2, B b742)], [.row .u8 x1 false]⟩ (by kernel_rfl) trivial ?_
          refine WO_nil rfl ?_
          refine thenS_n ?_
          refine W_ret ?_
          cases h
          exact ⟨[0], True, by kernel_rfl, trivial⟩

/- impl.marked -/
def impl_marked_L1 (x1 : List Bool) : Nat → (List Int) → Int → Option ((List Int))
| 0, _, _ => none
| n + 1, x71, i72 =>
 iteO (decide (i72 < 4))
 (guardO (0 ≤ i72 ∧ i72 < (4 : Int) ∧ i72.toNat < ((x1.drop 0).take 4).length) <|
 bindO (iteO (((x1.drop 0).take 4).getD i72.toNat false)
 (guardO (0 = 0 ∧ x71.length = x71.length ∧ x71.length + (([i72].drop 0).take ([i72].length)).length ≤ 1099511627776) <|
 some (x71 ++ (([i72].drop 0).take ([i72].length))))
 (some x71)) fun x99 =>
 impl_marked_L1 x1 n x99 (w64 (i72 + 1)))
 (some x71)

theorem impl_marked_L1_ok (w : World) (X : Nat → Prop) (θ : List Loc) (x1 : List Bool) (x87 : (List Int)) : ∀ (n : Nat) (x71 : List Int) (i72 : Int), impl_marked_L1 x1 n x71 i72 = some x87 → WL EE ⟨w, X, θ, 18, 0⟩ (subC [1, 1, 0, 1, 4, 4] (bodyC Try.f41)) (fun (e : Exit) (s : St) => e = .exit 0 ∧ s = ⟨[(3, .one (.e (.sl 0 0 x87.length)))], [.row .int x87 true]⟩) ⟨[(3, .one (.e (.sl 0 0 x71.length))), (6, .one (.arr .bool ((x1.drop 0).take 4))), (7, I i72)], [.row .int x71 true]⟩ := by
  intro n
  induction n with
  | zero => intro _ _ h; exact none_e h
  | succ n ih =>
    intro x71 i72 h
    rw [impl_marked_L1] at h
    refine WL_round ?_
    refine W_seq ?_
    refine W_region ?_
    refine WO_step 1 [0] [3, 6, 7, 8] (True ∧ True) ⟨[(3, .one (.e (.sl 0 0 x71.length))), (6, .one (.arr .bool ((x1.drop 0).take 4))), (7, I i72), (8, B (decide (i72 < 4)))], [.row .int x71 true]⟩ (by kernel_rfl) ⟨trivial, trivial⟩ ?_
    refine WO_nil rfl ?_
    refine thenS_n ?_
    refine W_seq ?_
    refine iteO_e h (fun hb90 h => W_true rfl hb90 ?_) (fun hb90 h => W_false rfl hb90 ?_)
    · refine W_sub [0] [3, 6, 7] (st' := ⟨[(3, .one (.e (.sl 0 0 x71.length))), (6, .one (.arr .bool ((x1.drop 0).take 4))), (7, I i72)], [.row .int x71 true]⟩) (by kernel_rfl) ?_
      refine W_skip ?_
      refine thenS_n ?_
      refine W_seq ?_
      refine W_block ?_
      refine W_seq ?_
      refine W_region ?_
      refine guardO_e h (fun hg96 h => ?_)
      refine WO_step 4 [0] [3, 4, 5, 6, 7] ((0 ≤ i72 ∧ i72 < (4 : Int) ∧ i72.toNat < ((x1.drop 0).take 4).length) ∧ True) ⟨[(3, .one (.e (.sl 0 0 x71.length))), (4, I i72), (5, B (((x1.drop 0).take 4).getD i72.toNat false)), (6, .one (.arr .bool ((x1.drop 0).take 4))), (7, I i72)], [.row .int x71 true]⟩ (by kernel_rfl) ⟨hg96, trivial⟩ ?_
      refine WO_nil rfl ?_
      refine thenS_n ?_
      refine W_seq ?_
      refine W_region ?_
      refine WO_step 1 [0] [3, 4, 6, 7, 11] True ⟨[(3, .one (.e (.sl 0 0 x71.length))), (4, I i72), (6, .one (.arr .bool ((x1.drop 0).take 4))), (7, I i72), (11, B (((x1.drop 0).take 4).getD i72.toNat false))], [.row .int x71 true]⟩ (by kernel_rfl) trivial ?_
      refine WO_nil rfl ?_
      refine thenS_n ?_
      refine bindO_e h (fun x99 hx99 h => ?_)
      refine W_cut (Q' := fun (e : Exit) (s : St) => e = .normal ∧ s = ⟨[(3, .one (.e (.sl 0 0 x99.length))), (6, .one (.arr .bool ((x1.drop 0).take 4))), (7, I i72)], [.row .int x99 true]⟩) ?_ ?_
      · refine iteO_e hx99 (fun hb101 hx99 => W_true rfl hb101 ?_) (fun hb101 hx99 => W_false rfl hb101 ?_)
        · refine W_region ?_
          refine guardO_e hx99 (fun hg102 hx99 => ?_)
          refine WO_step 5 [2] [3, 6, 7] ((0 = 0 ∧ x71.length = x71.length ∧ x71.length + (([i72].drop 0).take ([i72].length)).length ≤ 1099511627776) ∧ True) ⟨[(3, .one (.e (.sl 0 0 ((x71 ++ (([i72].drop 0).take ([i72].length))).length)))), (6, .one (.arr .bool ((x1.drop 0).take 4))), (7, I i72)], [.row .int (x71 ++ (([i72].drop 0).take ([i72].length))) true]⟩ (by kernel_rfl) ⟨hg102, trivial⟩ ?_
          refine WO_nil rfl ?_
          cases hx99
          exact And.intro rfl rfl
        · refine W_sub [0] [3, 6, 7] (st' := ⟨[(3, .one (.e (.sl 0 0 x71.length))), (6, .one (.arr .bool ((x1.drop 0).take 4))), (7, I i72)], [.row .int x71 true]⟩) (by kernel_rfl) ?_
          refine W_skip ?_
          cases hx99
          exact And.intro rfl rfl
      · rintro _ _ ⟨rfl, rfl⟩
        refine blockS_n ?_
        refine thenS_n ?_
        refine W_region ?_
        refine WO_step 2 [0] [3, 6, 7] (True ∧ True) ⟨[(3, .one (.e (.sl 0 0 x99.length))), (6, .one (.arr .bool ((x1.drop 0).take 4))), (7, I (w64 (i72 + 1)))], [.row .int x99 true]⟩ (by kernel_rfl) ⟨trivial, trivial⟩ ?_
        refine WO_nil rfl ?_
        refine thenS_n ?_
        exact ih _ _ h
    · refine W_sub [0] [3] (st' := ⟨[(3, .one (.e (.sl 0 0 x71.length)))], [.row .int x71 true]⟩) (by kernel_rfl) ?_
      refine W_exit ?_
      refine thenS_e ?_
      refine thenS_e ?_
      cases h
      exact And.intro rfl rfl

def impl_marked (n : Nat) (x1 : List Bool) : Option ((List Int)) :=
 guardO (0 < x1.length ∧ x1.length ≤ 1099511627776) <|
 guardO (0 + 4 ≤ x1.length) <|
 bindO (impl_marked_L1 x1 n ([] : List Int) 0) fun x87 =>
 some x87

theorem impl_marked_ok (n : Nat) (x1 : List Bool) (x50 : List Int) (h : impl_marked n x1 = some x50) : FOk EE 41 [.one (.arr .bool x1)] [] (.one (.e (.sl 0 0 x50.length))) [.row .int x50 true] := by
  unfold impl_marked at h
  refine FOk_of_W 18 0 Try.func41 rfl rfl (Nat.le_of_ble_eq_true rfl) rfl (fun w X θ => ?_)
  refine W_seq ?_
  refine W_region ?_
  refine guardO_e h (fun hg51 h => ?_)
  refine WO_step 2 [0] [1] ((0 < x1.length ∧ x1.length ≤ 1099511627776) ∧ True) ⟨[(1, .one (.e (.rp 0 0 0)))], [.row .bool x1 true]⟩ (by kernel_rfl) ⟨hg51, trivial⟩ ?_
  refine WO_nil rfl ?_
  refine thenS_n ?_
  refine W_seq ?_
  refine W_region ?_
  refine WO_step 1 [0] [1, 3] True ⟨[(1, .one (.e (.rp 0 0 0))), (3, .one (.e (.nsl)))], [.row .bool x1 true]⟩ (by kernel_rfl) trivial ?_
  refine WO_nilrow 3 .int rfl ?_
  refine WO_sub [0, 1] [1, 3] (st' := ⟨[(1, .one (.e (.rp 0 0 0))), (3, .one (.e (.sl 1 0 (([] : List Int).length))))], [.row .bool x1 true, .row .int ([] : List Int) true]⟩) (by kernel_rfl) ?_
  refine WO_nil rfl ?_
  refine thenS_n ?_
  refine W_seq ?_
  refine W_seq ?_
  refine W_region ?_
  refine guardO_e h (fun hg52 h => ?_)
  refine WO_step 2 [1] [3, 6, 7] ((0 + 4 ≤ x1.length) ∧ True) ⟨[(3, .one (.e (.sl 0 0 (([] : List Int).length)))), (6, .one (.arr .bool ((x1.drop 0).take 4))), (7, I 0)], [.row .int ([] : List Int) true]⟩ (by kernel_rfl) ⟨hg52, trivial⟩ ?_
  refine WO_nil rfl ?_
  refine thenS_n ?_
  refine W_block ?_
  refine W_loop ?_
  refine bindO_e h (fun x87 hx87 h => ?_)
  refine WL_cut (impl_marked_L1_ok w X θ x1 x87 n ([] : List Int) 0 hx87) ?_
  rintro _ _ ⟨rfl, rfl⟩
  refine blockS_y ?_
  refine thenS_n ?_
  refine W_seq ?_
  refine W_region ?_
  refine WO_step 2 [0] [2] True ⟨[(2, .one (.e (.sl 0 0 x87.length)))], [.row .int x87 true]⟩ (by kernel_rfl) trivial ?_
  refine WO_nil rfl ?_
  refine thenS_n ?_
  refine W_ret ?_
  cases h
  exact ⟨[0], True, by kernel_rfl, trivial⟩

/- impl.LosersOf -/
def impl_LosersOf_L1 (x2 : List Rcd) (x1 : List Nod) : Nat → (List Bool) → Int → Option ((List Bool))
| 0, _, _ => none
| n + 1, x145, i146 =>
 iteO (decide (i146 < ((x2.length : Nat) : Int)))
 (guardO (0 ≤ i146 ∧ i146 < ((x2.length : Nat) : Int)) <|
 bindO (iteO (!(x2.getD i146.toNat drcd).fin)
 (bindO (impl_isDone n x2 i146) fun b201 =>
 some (!b201))
 (some false)) fun b198 =>
 bindO (iteO b198
 (guardO (0 ≤ (x2.getD i146.toNat drcd).who ∧ (x2.getD i146.toNat drcd).who < (4 : Int) ∧ (((x2.getD i146.toNat drcd).who).toNat * 1) < x145.length) <|
 some (x145.set (((x2.getD i146.toNat drcd).who).toNat * 1) true))
 (some x145)) fun x205 =>
 impl_LosersOf_L1 x2 x1 n x205 (w64 (i146 + 1)))
 (some x145)

theorem impl_LosersOf_L1_ok (w : World) (X : Nat → Prop) (θ : List Loc) (x2 : List Rcd) (x1 : List Nod) (x177 : (List Bool)) : ∀ (n : Nat) (x145 : List Bool) (i146 : Int), impl_LosersOf_L1 x2 x1 n x145 i146 = some x177 → WL EE ⟨w, X, θ, 34, 2⟩ (subC [1, 1, 1, 0, 1, 4, 4] (bodyC Try.f13)) (fun (e : Exit) (s : St) => e = .exit 0 ∧ s = ⟨[(5, .one (.e (.rp 2 0 0)))], [.row .nod x1 false, .row .rcd x2 false, .row .bool x177 true]⟩) ⟨[(1, .one (.e (.sl 1 0 x2.length))), (5, .one (.e (.rp 2 0 0))), (12, .one (.e (.sl 1 0 x2.length))), (13, I ((x2.length : Nat) : Int)), (14, I i146)], [.row .nod x1 false, .row .rcd x2 false, .row .bool x145 true]⟩ := by
  intro n
  induction n with
  | zero => intro _ _ h; exact none_e h
  | succ n ih =>
    intro x145 i146 h
    rw [impl_LosersOf_L1] at h
    refine WL_round ?_
    refine W_seq ?_
    refine W_region ?_
    refine WO_step 1 [0, 1, 2] [1, 5, 12, 13, 14, 15] (True ∧ True) ⟨[(1, .one (.e (.sl 1 0 x2.length))), (5, .one (.e (.rp 2 0 0))), (12, .one (.e (.sl 1 0 x2.length))), (13, I ((x2.length : Nat) : Int)), (14, I i146), (15, B (decide (i146 < ((x2.length : Nat) : Int))))], [.row .nod x1 false, .row .rcd x2 false, .row .bool x145 true]⟩ (by kernel_rfl) ⟨trivial, trivial⟩ ?_
    refine WO_nil rfl ?_
    refine thenS_n ?_
    refine W_seq ?_
    refine iteO_e h (fun hb180 h => W_true rfl hb180 ?_) (fun hb180 h => W_false rfl hb180 ?_)
    · refine W_sub [0, 1, 2] [1, 5, 12, 13, 14] (st' := ⟨[(1, .one (.e (.sl 1 0 x2.length))), (5, .one (.e (.rp 2 0 0))), (12, .one (.e (.sl 1 0 x2.length))), (13, I ((x2.length : Nat) : Int)), (14, I i146)], [.row .nod x1 false, .row .rcd x2 false, .row .bool x145 true]⟩) (by kernel_rfl) ?_
      refine W_skip ?_
      refine thenS_n ?_
      refine W_seq ?_
      refine W_block ?_
      refine W_seq ?_
      refine W_region ?_
      refine guardO_e h (fun hg194 h => ?_)
      refine WO_step 6 [0, 1, 2, 3] [1, 5, 6, 7, 12, 13, 14] ((0 ≤ i146 ∧ i146 < ((x2.length : Nat) : Int)) ∧ (True ∧ (True ∧ (True ∧ True)))) ⟨[(1, .one (.e (.sl 1 0 x2.length))), (5, .one (.e (.rp 2 0 0))), (6, I i146), (7, .one (.e (.p 3 0))), (12, .one (.e (.sl 1 0 x2.length))), (13, I ((x2.length : Nat) : Int)), (14, I i146)], [.row .nod x1 false, .row .rcd x2 false, .row .bool x145 true, .cells [cI ((x2.getD i146.toNat drcd).who), cI ((x2.getD i146.toNat drcd).node), cI ((x2.getD i146.toNat drcd).value), cB ((x2.getD i146.toNat drcd).fin)]]⟩ (by kernel_rfl) ⟨hg194, trivial, trivial, trivial, trivial⟩ ?_
      refine WO_nil rfl ?_
      refine thenS_n ?_
      refine W_seq ?_
      refine W_region ?_
      refine WO_step 4 [0, 1, 2, 3] [1, 5, 6, 7, 12, 13, 14, 22] (True ∧ True) ⟨[(1, .one (.e (.sl 1 0 x2.length))), (5, .one (.e (.rp 2 0 0))), (6, I i146), (7, .one (.e (.p 3 0))), (12, .one (.e (.sl 1 0 x2.length))), (13, I ((x2.length : Nat) : Int)), (14, I i146), (22, B (!(x2.getD i146.toNat drcd).fin))], [.row .nod x1 false, .row .rcd x2 false, .row .bool x145 true, .cells [cI ((x2.getD i146.toNat drcd).who), cI ((x2.getD i146.toNat drcd).node), cI ((x2.getD i146.toNat drcd).value), cB ((x2.getD i146.toNat drcd).fin)]]⟩ (by kernel_rfl) ⟨trivial, trivial⟩ ?_
      refine bindO_e h (fun b198 hv199 h => ?_)
      refine WO_thru ⟨[(1, .one (.e (.sl 1 0 x2.length))), (5, .one (.e (.rp 2 0 0))), (7, .one (.e (.p 3 0))), (12, .one (.e (.sl 1 0 x2.length))), (13, I ((x2.length : Nat) : Int)), (14, I i146), (27, B b198)], [.row .nod x1 false, .row .rcd x2 false, .row .bool x145 true, .cells [cI ((x2.getD i146.toNat drcd).who), cI ((x2.getD i146.toNat drcd).node), cI ((x2.getD i146.toNat drcd).value), cB ((x2.getD i146.toNat drcd).fin)]]⟩ ?_ ?_
      · refine iteO_e hv199 (fun hb200 hv199 => WO_known 22 true rfl hb200 ?_) (fun hb200 hv199 => WO_known 22 false rfl hb200 ?_)
        · refine WO_step 2 [0, 1, 2, 3] [1, 5, 7, 12, 13, 14, 22, 23, 24] True ⟨[(1, .one (.e (.sl 1 0 x2.length))), (5, .one (.e (.rp 2 0 0))), (7, .one (.e (.p 3 0))), (12, .one (.e (.sl 1 0 x2.length))), (13, I ((x2.length : Nat) : Int)), (14, I i146), (22, B true), (23, .one (.e (.sl 1 0 x2.length))), (24, I i146)], [.row .nod x1 false, .row .rcd x2 false, .row .bool x145 true, .cells [cI ((x2.getD i146.toNat drcd).who), cI ((x2.getD i146.toNat drcd).node), cI ((x2.getD i146.toNat drcd).value), cB ((x2.getD i146.toNat drcd).fin)]]⟩ (by kernel_rfl) trivial ?_
          refine bindO_e hv199 (fun b201 hc202 hv199 => ?_)
          refine WO_call [.ro 1] Try.f40 rfl rfl rfl (by kernel_rfl) rfl rfl (by kernel_rfl) (impl_isDone_ok n x2 i146 b201 hc202) (And.intro (And.intro rfl rfl) (trivial)) rfl ?_
          refine WO_step 2 [0, 1, 2, 3] [1, 5, 7, 12, 13, 14, 27] True ⟨[(1, .one (.e (.sl 1 0 x2.length))), (5, .one (.e (.rp 2 0 0))), (7, .one (.e (.p 3 0))), (12, .one (.e (.sl 1 0 x2.length))), (13, I ((x2.length : Nat) : Int)), (14, I i146), (27, B (!b201))], [.row .nod x1 false, .row .rcd x2 false, .row .bool x145 true, .cells [cI ((x2.getD i146.toNat drcd).who), cI ((x2.getD i146.toNat drcd).node), cI ((x2.getD i146.toNat drcd).value), cB ((x2.getD i146.toNat drcd).fin)]]⟩ (by kernel_rfl) trivial ?_
          cases hv199
          exact WO_nil rfl ⟨rfl, rfl⟩
        · refine WO_step 5 [0, 1, 2, 3] [1, 5, 7, 12, 13, 14, 27] True ⟨[(1, .one (.e (.sl 1 0 x2.length))), (5, .one (.e (.rp 2 0 0))), (7, .one (.e (.p 3 0))), (12, .one (.e (.sl 1 0 x2.length))), (13, I ((x2.length : Nat) : Int)), (14, I i146), (27, B false)], [.row .nod x1 false, .row .rcd x2 false, .row .bool x145 true, .cells [cI ((x2.getD i146.toNat drcd).who), cI ((x2.getD i146.toNat drcd).node), cI ((x2.getD i146.toNat drcd).value), cB ((x2.getD i146.toNat drcd).fin)]]⟩ (by kernel_rfl) trivial ?_
          cases hv199
          exact WO_nil rfl ⟨rfl, rfl⟩
      · refine thenS_n ?_
        refine bindO_e h (fun x205 hx205 h => ?_)
        refine W_cut (Q' := fun (e : Exit) (s : St) => e = .normal ∧ s = ⟨[(1, .one (.e (.sl 1 0 x2.length))), (5, .one (.e (.rp 2 0 0))), (12, .one (.e (.sl 1 0 x2.length))), (13, I ((x2.length : Nat) : Int)), (14, I i146)], [.row .nod x1 false, .row .rcd x2 false, .row .bool x205 true]⟩) ?_ ?_
        · refine iteO_e hx205 (fun hb207 hx205 => W_true rfl hb207 ?_) (fun hb207 hx205 => W_false rfl hb207 ?_)
          · refine W_region ?_
            refine guardO_e hx205 (fun hg208 hx205 => ?_)
            refine WO_step 4 [0, 1, 2] [1, 5, 12, 13, 14] (True ∧ ((0 ≤ (x2.getD i146.toNat drcd).who ∧ (x2.getD i146.toNat drcd).who < (4 : Int) ∧ (((x2.getD i146.toNat drcd).who).toNat * 1) < x145.length) ∧ (True ∧ True))) ⟨[(1, .one (.e (.sl 1 0 x2.length))), (5, .one (.e (.rp 2 0 0))), (12, .one (.e (.sl 1 0 x2.length))), (13, I ((x2.length : Nat) : Int)), (14, I i146)], [.row .nod x1 false, .row .rcd x2 false, .row .bool (x145.set (((x2.getD i146.toNat drcd).who).toNat * 1) true) true]⟩ (by kernel_rfl) ⟨trivial, hg208, trivial, trivial⟩ ?_
            refine WO_nil rfl ?_
            cases hx205
            exact And.intro rfl rfl
          · refine W_sub [0, 1, 2] [1, 5, 12, 13, 14] (st' := ⟨[(1, .one (.e (.sl 1 0 x2.length))), (5, .one (.e (.rp 2 0 0))), (12, .one (.e (.sl 1 0 x2.length))), (13, I ((x2.length : Nat) : Int)), (14, I i146)], [.row .nod x1 false, .row .rcd x2 false, .row .bool x145 true]⟩) (by kernel_rfl) ?_
            refine W_skip ?_
            cases hx205
            exact And.intro rfl rfl
        · rintro _ _ ⟨rfl, rfl⟩
          refine blockS_n ?_
          refine thenS_n ?_
          refine W_region ?_
          refine WO_step 2 [0, 1, 2] [1, 5, 12, 13, 14] (True ∧ True) ⟨[(1, .one (.e (.sl 1 0 x2.length))), (5, .one (.e (.rp 2 0 0))), (12, .one (.e (.sl 1 0 x2.length))), (13, I ((x2.length : Nat) : Int)), (14, I (w64 (i146 + 1)))], [.row .nod x1 false, .row .rcd x2 false, .row .bool x205 true]⟩ (by kernel_rfl) ⟨trivial, trivial⟩ ?_
          refine WO_nil rfl ?_
          refine thenS_n ?_
          exact ih _ _ h
    · refine W_sub [0, 1, 2] [5] (st' := ⟨[(5, .one (.e (.rp 2 0 0)))], [.row .nod x1 false, .row .rcd x2 false, .row .bool x145 true]⟩) (by kernel_rfl) ?_
      refine W_exit ?_
      refine thenS_e ?_
      refine thenS_e ?_
      cases h
      exact And.intro rfl rfl

def impl_LosersOf (n : Nat) (x1 : List Nod) (x2 : List Rcd) : Option ((List Int)) :=
 bindO (impl_ValidLog n x1 x2) fun b107 =>
 iteO (!b107)
 (some ([] : List Int))
 (bindO (impl_LosersOf_L1 x2 x1 n ([false, false, false, false] : List Bool) 0) fun x177 =>
 guardO (0 + 4 ≤ x177.length) <|
 bindO (impl_marked n ((x177.drop 0).take 4)) fun x211 =>
 some x211)

theorem impl_LosersOf_ok (n : Nat) (x1 : List Nod) (x2 : List Rcd) (x106 : List Int) (h : impl_LosersOf n x1 x2 = some x106) : FOk EE 13 [.one (.e (.sl 0 0 x1.length)), .one (.e (.sl 1 0 x2.length))] [.row .nod x1 false, .row .rcd x2 false] (.one (.e (.sl 2 0 x106.length))) [.row .nod x1 false, .row .rcd x2 false, .row .int x106 true] := by
  unfold impl_LosersOf at h
  refine FOk_of_W 34 2 Try.func13 rfl rfl (Nat.le_of_ble_eq_true rfl) rfl (fun w X θ => ?_)
  refine W_seq ?_
  refine W_region ?_
  refine WO_step 1 [0, 1] [0, 1] True ⟨[(0, .one (.e (.sl 0 0 x1.length))), (1, .one (.e (.sl 1 0 x2.length)))], [.row .nod x1 false, .row .rcd x2 false]⟩ (by kernel_rfl) trivial ?_
  refine WO_nil rfl ?_
  refine thenS_n ?_
  refine W_seq ?_
  refine W_seq ?_
  refine W_region ?_
  refine WO_step 2 [0, 1] [1, 8, 9] True ⟨[(1, .one (.e (.sl 1 0 x2.length))), (8, .one (.e (.sl 0 0 x1.length))), (9, .one (.e (.sl 1 0 x2.length)))], [.row .nod x1 false, .row .rcd x2 false]⟩ (by kernel_rfl) trivial ?_
  refine bindO_e h (fun b107 hc108 h => ?_)
  refine WO_call [.ro 0, .ro 1] Try.f16 rfl rfl rfl (by kernel_rfl) rfl rfl (by kernel_rfl) (impl_ValidLog_ok n x1 x2 b107 hc108) (And.intro (And.intro rfl rfl) (And.intro (And.intro rfl rfl) (trivial))) rfl ?_
  refine WO_step 1 [0, 1] [1, 11] True ⟨[(1, .one (.e (.sl 1 0 x2.length))), (11, B (!b107))], [.row .nod x1 false, .row .rcd x2 false]⟩ (by kernel_rfl) trivial ?_
  refine WO_nil rfl ?_
  refine thenS_n ?_
  refine iteO_e h (fun hb110 h => W_true rfl hb110 ?_) (fun hb110 h => W_false rfl hb110 ?_)
  · refine W_seq ?_
    refine W_region ?_
    refine WO_step 1 [0, 1] [4] True ⟨[(4, .one (.e (.nsl)))], [.row .nod x1 false, .row .rcd x2 false]⟩ (by kernel_rfl) trivial ?_
    refine WO_nilrow 4 .int rfl ?_
    refine WO_sub [0, 1, 2] [4] (st' := ⟨[(4, .one (.e (.sl 2 0 (([] : List Int).length))))], [.row .nod x1 false, .row .rcd x2 false, .row .int ([] : List Int) true]⟩) (by kernel_rfl) ?_
    refine WO_nil rfl ?_
    refine thenS_n ?_
    refine W_ret ?_
    refine thenS_r ?_
    cases h
    exact ⟨[0, 1, 2], True, by kernel_rfl, trivial⟩
  · refine W_sub [0, 1] [1] (st' := ⟨[(1, .one (.e (.sl 1 0 x2.length)))], [.row .nod x1 false, .row .rcd x2 false]⟩) (by kernel_rfl) ?_
    refine W_skip ?_
    refine thenS_n ?_
    refine W_seq ?_
    refine W_region ?_
    refine WO_step 1 [0, 1, 2] [1, 5] ((0 < ([false, false, false, false] : List Bool).length ∧ ([false, false, false, false] : List Bool).length ≤ 1099511627776) ∧ True) ⟨[(1, .one (.e (.sl 1 0 x2.length))), (5, .one (.e (.rp 2 0 0)))], [.row .nod x1 false, .row .rcd x2 false, .row .bool ([false, false, false, false] : List Bool) true]⟩ (by kernel_rfl) ⟨(by decide), trivial⟩ ?_
    refine WO_nil rfl ?_
    refine thenS_n ?_
    refine W_seq ?_
    refine W_seq ?_
    refine W_region ?_
    refine WO_step 3 [0, 1, 2] [1, 5, 12, 13, 14] (True ∧ True) ⟨[(1, .one (.e (.sl 1 0 x2.length))), (5, .one (.e (.rp 2 0 0))), (12, .one (.e (.sl 1 0 x2.length))), (13, I ((x2.length : Nat) : Int)), (14, I 0)], [.row .nod x1 false, .row .rcd x2 false, .row .bool ([false, false, false, false] : List Bool) true]⟩ (by kernel_rfl) ⟨trivial, trivial⟩ ?_
    refine WO_nil rfl ?_
    refine thenS_n ?_
    refine W_block ?_
    refine W_loop ?_
    refine bindO_e h (fun x177 hx177 h => ?_)
    refine WL_cut (impl_LosersOf_L1_ok w X θ x2 x1 x177 n ([false, false, false, false] : List Bool) 0 hx177) ?_
    rintro _ _ ⟨rfl, rfl⟩
    refine blockS_y ?_
    refine thenS_n ?_
    refine W_seq ?_
    refine W_region ?_
    refine guardO_e h (fun hg210 h => ?_)
    refine WO_step 1 [0, 1] [32] ((0 + 4 ≤ x177.length) ∧ True) ⟨[(32, .one (.arr .bool ((x177.drop 0).take 4)))], [.row .nod x1 false, .row .rcd x2 false]⟩ (by kernel_rfl) ⟨hg210, trivial⟩ ?_
    refine bindO_e h (fun x211 hc212 h => ?_)
    refine WO_call [] Try.f41 rfl rfl rfl (by kernel_rfl) rfl rfl (by kernel_rfl) (impl_marked_ok n ((x177.drop 0).take 4) x211 hc212) (trivial) rfl ?_
    refine WO_step 1 [0, 1, 2] [4] True ⟨[(4, .one (.e (.sl 2 0 x211.length)))], [.row .nod x1 false, .row .rcd x2 false, .row .int x211 true]⟩ (by kernel_rfl) trivial ?_
    refine WO_nil rfl ?_
    refine thenS_n ?_
    refine W_ret ?_
    cases h
    exact ⟨[0, 1, 2], True, by kernel_rfl, trivial⟩

/- spec.LosersOf -/
def spec_LosersOf_L2 (x2 : List Rcd) (x752 : List Int) (i753 : Int) (x1 : List Nod) : Nat → Bool → Int → Option (Bool)
| 0, _, _ => none
| n + 1, b1054, i1055 =>
 iteO (decide (i1055 < ((x2.length : Nat) : Int)))
 (bindO (iteO b1054
 (some true)
 (guardO (0 ≤ i1055 ∧ i1055 < ((x2.length : Nat) : Int)) <|
 iteO (decide (((x2.getD i1055.toNat drcd).who) = i753))
 (guardO (0 ≤ i1055 ∧ i1055 < ((x2.length : Nat) : Int)) <|
 iteO (!(x2.getD i1055.toNat drcd).fin)
 (bindO (spec_ended n x2 (w64 (i1055 + 1)) i753) fun b1126 =>
 some (!b1126))
 (some false))
 (some false))) fun b1119 =>
 spec_LosersOf_L2 x2 x752 i753 x1 n b1119 (w64 (i1055 + 1)))
 (some b1054)

theorem spec_LosersOf_L2_ok (w : World) (X : Nat → Prop) (θ : List Loc) (x2 : List Rcd) (x752 : List Int) (i753 : Int) (x1 : List Nod) (b1092 : Bool) : ∀ (n : Nat) (b1054 : Bool) (i1055 : Int), spec_LosersOf_L2 x2 x752 i753 x1 n b1054 i1055 = some b1092 → WL EE ⟨w, X, θ, 61, 2⟩ (subC [1, 1, 1, 0, 1, 4, 4, 1, 0, 4, 1, 0, 1, 4, 4] (bodyC Try.f15)) (fun (e : Exit) (s : St) => e = .exit 2 ∧ s = ⟨[(1, .one (.e (.sl 1 0 x2.length))), (5, .one (.e (.sl 2 0 x752.length))), (6, I i753), (7, B b1092)], [.row .nod x1 false, .row .rcd x2 false, .row .int x752 true]⟩) ⟨[(1, .one (.e (.sl 1 0 x2.length))), (5, .one (.e (.sl 2 0 x752.length))), (6, I i753), (7, B b1054), (8, I i1055)], [.row .nod x1 false, .row .rcd x2 false, .row .int x752 true]⟩ := by
  intro n
  induction n with
  | zero => intro _ _ h; exact none_e h
  | succ n ih =>
    intro b1054 i1055 h
    rw [spec_LosersOf_L2] at h
    refine WL_round ?_
    refine W_seq ?_
    refine W_seq ?_
    refine W_region ?_
    refine WO_step 4 [0, 1, 2] [1, 5, 6, 7, 8, 26] (True ∧ (True ∧ True)) ⟨[(1, .one (.e (.sl 1 0 x2.length))), (5, .one (.e (.sl 2 0 x752.length))), (6, I i753), (7, B b1054), (8, I i1055), (26, B (decide (i1055 < ((x2.length : Nat) : Int))))], [.row .nod x1 false, .row .rcd x2 false, .row .int x752 true]⟩ (by kernel_rfl) ⟨trivial, trivial, trivial⟩ ?_
    refine WO_nil rfl ?_
    refine thenS_n ?_
    refine iteO_e h (fun hb1095 h => W_true rfl hb1095 ?_) (fun hb1095 h => W_false rfl hb1095 ?_)
    · refine W_sub [0, 1, 2] [1, 5, 6, 7, 8] (st' := ⟨[(1, .one (.e (.sl 1 0 x2.length))), (5, .one (.e (.sl 2 0 x752.length))), (6, I i753), (7, B b1054), (8, I i1055)], [.row .nod x1 false, .row .rcd x2 false, .row .int x752 true]⟩) (by kernel_rfl) ?_
      refine W_skip ?_
      refine thenS_n ?_
      refine W_seq ?_
      refine W_block ?_
      refine W_region ?_
      refine WO_step 2 [0, 1, 2] [1, 5, 6, 8, 30] True ⟨[(1, .one (.e (.sl 1 0 x2.length))), (5, .one (.e (.sl 2 0 x752.length))), (6, I i753), (8, I i1055), (30, B b1054)], [.row .nod x1 false, .row .rcd x2 false, .row .int x752 true]⟩ (by kernel_rfl) trivial ?_
      refine bindO_e h (fun b1119 hv1120 h => ?_)
      refine WO_thru ⟨[(1, .one (.e (.sl 1 0 x2.length))), (5, .one (.e (.sl 2 0 x752.length))), (6, I i753), (7, B b1119), (8, I i1055)], [.row .nod x1 false, .row .rcd x2 false, .row .int x752 true]⟩ ?_ ?_
      · refine iteO_e hv1120 (fun hb1121 hv1120 => WO_known 30 true rfl hb1121 ?_) (fun hb1121 hv1120 => WO_known 30 false rfl hb1121 ?_)
        · refine WO_step 25 [0, 1, 2] [1, 5, 6, 7, 8] True ⟨[(1, .one (.e (.sl 1 0 x2.length))), (5, .one (.e (.sl 2 0 x752.length))), (6, I i753), (7, B true), (8, I i1055)], [.row .nod x1 false, .row .rcd x2 false, .row .int x752 true]⟩ (by kernel_rfl) trivial ?_
          cases hv1120
          exact WO_nil rfl ⟨rfl, rfl⟩
        · refine guardO_e hv1120 (fun hg1122 hv1120 => ?_)
          refine WO_step 8 [0, 1, 2] [1, 5, 6, 8, 30, 38] ((0 ≤ i1055 ∧ i1055 < ((x2.length : Nat) : Int)) ∧ (True ∧ (True ∧ True))) ⟨[(1, .one (.e (.sl 1 0 x2.length))), (5, .one (.e (.sl 2 0 x752.length))), (6, I i753), (8, I i1055), (30, B false), (38, B (decide (((x2.getD i1055.toNat drcd).who) = i753)))], [.row .nod x1 false, .row .rcd x2 false, .row .int x752 true]⟩ (by kernel_rfl) ⟨hg1122, trivial, trivial, trivial⟩ ?_
          refine iteO_e hv1120 (fun hb1123 hv1120 => WO_known 38 true rfl hb1123 ?_) (fun hb1123 hv1120 => WO_known 38 false rfl hb1123 ?_)
          · refine guardO_e hv1120 (fun hg1124 hv1120 => ?_)
            refine WO_step 8 [0, 1, 2] [1, 5, 6, 8, 30, 46] ((0 ≤ i1055 ∧ i1055 < ((x2.length : Nat) : Int)) ∧ (True ∧ True)) ⟨[(1, .one (.e (.sl 1 0 x2.length))), (5, .one (.e (.sl 2 0 x752.length))), (6, I i753), (8, I i1055), (30, B false), (46, B (!(x2.getD i1055.toNat drcd).fin))], [.row .nod x1 false, .row .rcd x2 false, .row .int x752 true]⟩ (by kernel_rfl) ⟨hg1124, trivial, trivial⟩ ?_
            refine iteO_e hv1120 (fun hb1125 hv1120 => WO_known 46 true rfl hb1125 ?_) (fun hb1125 hv1120 => WO_known 46 false rfl hb1125 ?_)
            · refine WO_step 4 [0, 1, 2] [1, 5, 6, 8, 30, 46, 47, 49, 50] (True ∧ True) ⟨[(1, .one (.e (.sl 1 0 x2.length))), (5, .one (.e (.sl 2 0 x752.length))), (6, I i753), (8, I i1055), (30, B false), (46, B true), (47, .one (.e (.sl 1 0 x2.length))), (49, I (w64 (i1055 + 1))), (50, I i753)], [.row .nod x1 false, .row .rcd x2 false, .row .int x752 true]⟩ (by kernel_rfl) ⟨trivial, trivial⟩ ?_
              refine bindO_e hv1120 (fun b1126 hc1127 hv1120 => ?_)
              refine WO_call [.ro 1] Try.f44 rfl rfl rfl (by kernel_rfl) rfl rfl (by kernel_rfl) (spec_ended_ok n x2 (w64 (i1055 + 1)) i753 b1126 hc1127) (And.intro (And.intro rfl rfl) (trivial)) rfl ?_
              refine WO_step 4 [0, 1, 2] [1, 5, 6, 7, 8] True ⟨[(1, .one (.e (.sl 1 0 x2.length))), (5, .one (.e (.sl 2 0 x752.length))), (6, I i753), (7, B (!b1126)), (8, I i1055)], [.row .nod x1 false, .row .rcd x2 false, .row .int x752 true]⟩ (by kernel_rfl) trivial ?_
              cases hv1120
              exact WO_nil rfl ⟨rfl, rfl⟩
            · refine WO_step 9 [0, 1, 2] [1, 5, 6, 7, 8] True ⟨[(1, .one (.e (.sl 1 0 x2.length))), (5, .one (.e (.sl 2 0 x752.length))), (6, I i753), (7, B false), (8, I i1055)], [.row .nod x1 false, .row .rcd x2 false, .row .int x752 true]⟩ (by kernel_rfl) trivial ?_
              cases hv1120
              exact WO_nil rfl ⟨rfl, rfl⟩
          · refine WO_step 17 [0, 1, 2] [1, 5, 6, 7, 8] True ⟨[(1, .one (.e (.sl 1 0 x2.length))), (5, .one (.e (.sl 2 0 x752.length))), (6, I i753), (7, B false), (8, I i1055)], [.row .nod x1 false, .row .rcd x2 false, .row .int x752 true]⟩ (by kernel_rfl) trivial ?_
            cases hv1120
            exact WO_nil rfl ⟨rfl, rfl⟩
      · refine blockS_n ?_
        refine thenS_n ?_
        refine W_region ?_
        refine WO_step 3 [0, 1, 2] [1, 5, 6, 7, 8] (True ∧ True) ⟨[(1, .one (.e (.sl 1 0 x2.length))), (5, .one (.e (.sl 2 0 x752.length))), (6, I i753), (7, B b1119), (8, I (w64 (i1055 + 1)))], [.row .nod x1 false, .row .rcd x2 false, .row .int x752 true]⟩ (by kernel_rfl) ⟨trivial, trivial⟩ ?_
        refine WO_nil rfl ?_
        refine thenS_n ?_
        exact ih _ _ h
    · refine W_sub [0, 1, 2] [1, 5, 6, 7] (st' := ⟨[(1, .one (.e (.sl 1 0 x2.length))), (5, .one (.e (.sl 2 0 x752.length))), (6, I i753), (7, B b1054)], [.row .nod x1 false, .row .rcd x2 false, .row .int x752 true]⟩) (by kernel_rfl) ?_
      refine W_exit ?_
      refine thenS_e ?_
      refine thenS_e ?_
      cases h
      exact And.intro rfl rfl

def spec_LosersOf_L1 (x2 : List Rcd) (x1 : List Nod) : Nat → (List Int) → Int → Option ((List Int))
| 0, _, _ => none
| n + 1, x752, i753 =>
 iteO (decide (i753 < 4))
 (bindO (spec_LosersOf_L2 x2 x752 i753 x1 n false 0) fun b1092 =>
 bindO (iteO b1092
 (guardO (0 = 0 ∧ x752.length = x752.length ∧ x752.length + (([i753].drop 0).take ([i753].length)).length ≤ 1099511627776) <|
 some (x752 ++ (([i753].drop 0).take ([i753].length))))
 (some x752)) fun x1131 =>
 spec_LosersOf_L1 x2 x1 n x1131 (w64 (i753 + 1)))
 (some x752)

theorem spec_LosersOf_L1_ok (w : World) (X : Nat → Prop) (θ : List Loc) (x2 : List Rcd) (x1 : List Nod) (x926 : (List Int)) : ∀ (n : Nat) (x752 : List Int) (i753 : Int), spec_LosersOf_L1 x2 x1 n x752 i753 = some x926 → WL EE ⟨w, X, θ, 61, 2⟩ (subC [1, 1, 1, 0, 1, 4, 4] (bodyC Try.f15)) (fun (e : Exit) (s : St) => e = .exit 0 ∧ s = ⟨[(5, .one (.e (.sl 2 0 x926.length)))], [.row .nod x1 false, .row .rcd x2 false, .row .int x926 true]⟩) ⟨[(1, .one (.e (.sl 1 0 x2.length))), (5, .one (.e (.sl 2 0 x752.length))), (6, I i753)], [.row .nod x1 false, .row .rcd x2 false, .row .int x752 true]⟩ := by
  intro n
  induction n with
  | zero => intro _ _ h; exact none_e h
  | succ n ih =>
    intro x752 i753 h
    rw [spec_LosersOf_L1] at h
    refine WL_round ?_
    refine W_seq ?_
    refine W_seq ?_
    refine W_region ?_
    refine WO_step 2 [0, 1, 2] [1, 5, 6, 20] (True ∧ True) ⟨[(1, .one (.e (.sl 1 0 x2.length))), (5, .one (.e (.sl 2 0 x752.length))), (6, I i753), (20, B (decide (i753 < 4)))], [.row .nod x1 false, .row .rcd x2 false, .row .int x752 true]⟩ (by kernel_rfl) ⟨trivial, trivial⟩ ?_
    refine WO_nil rfl ?_
    refine thenS_n ?_
    refine iteO_e h (fun hb929 h => W_true rfl hb929 ?_) (fun hb929 h => W_false rfl hb929 ?_)
    · refine W_sub [0, 1, 2] [1, 5, 6] (st' := ⟨[(1, .one (.e (.sl 1 0 x2.length))), (5, .one (.e (.sl 2 0 x752.length))), (6, I i753)], [.row .nod x1 false, .row .rcd x2 false, .row .int x752 true]⟩) (by kernel_rfl) ?_
      refine W_skip ?_
      refine thenS_n ?_
      refine W_seq ?_
      refine W_block ?_
      refine W_seq ?_
      refine W_region ?_
      refine WO_step 1 [0, 1, 2] [1, 5, 6, 7] True ⟨[(1, .one (.e (.sl 1 0 x2.length))), (5, .one (.e (.sl 2 0 x752.length))), (6, I i753), (7, B false)], [.row .nod x1 false, .row .rcd x2 false, .row .int x752 true]⟩ (by kernel_rfl) trivial ?_
      refine WO_nil rfl ?_
      refine thenS_n ?_
      refine W_seq ?_
      refine W_seq ?_
      refine W_region ?_
      refine WO_step 1 [0, 1, 2] [1, 5, 6, 7, 8] True ⟨[(1, .one (.e (.sl 1 0 x2.length))), (5, .one (.e (.sl 2 0 x752.length))), (6, I i753), (7, B false), (8, I 0)], [.row .nod x1 false, .row .rcd x2 false, .row .int x752 true]⟩ (by kernel_rfl) trivial ?_
      refine WO_nil rfl ?_
      refine thenS_n ?_
      refine W_block ?_
      refine W_loop ?_
      refine bindO_e h (fun b1092 hb1092 h => ?_)
      refine WL_cut (spec_LosersOf_L2_ok w X θ x2 x752 i753 x1 b1092 n false 0 hb1092) ?_
      rintro _ _ ⟨rfl, rfl⟩
      refine blockS_y ?_
      refine thenS_n ?_
      refine W_seq ?_
      refine W_region ?_
      refine WO_step 1 [0, 1, 2] [1, 5, 6, 55] True ⟨[(1, .one (.e (.sl 1 0 x2.length))), (5, .one (.e (.sl 2 0 x752.length))), (6, I i753), (55, B b1092)], [.row .nod x1 false, .row .rcd x2 false, .row .int x752 true]⟩ (by kernel_rfl) trivial ?_
      refine WO_nil rfl ?_
      refine thenS_n ?_
      refine bindO_e h (fun x1131 hx1131 h => ?_)
      refine W_cut (Q' := fun (e : Exit) (s : St) => e = .normal ∧ s = ⟨[(1, .one (.e (.sl 1 0 x2.length))), (5, .one (.e (.sl 2 0 x1131.length))), (6, I i753)], [.row .nod x1 false, .row .rcd x2 false, .row .int x1131 true]⟩) ?_ ?_
      · refine iteO_e hx1131 (fun hb1133 hx1131 => W_true rfl hb1133 ?_) (fun hb1133 hx1131 => W_false rfl hb1133 ?_)
        · refine W_region ?_
          refine guardO_e hx1131 (fun hg1134 hx1131 => ?_)
          refine WO_step 5 [0, 1, 4] [1, 5, 6] ((0 = 0 ∧ x752.length = x752.length ∧ x752.length + (([i753].drop 0).take ([i753].length)).length ≤ 1099511627776) ∧ True) ⟨[(1, .one (.e (.sl 1 0 x2.length))), (5, .one (.e (.sl 2 0 ((x752 ++ (([i753].drop 0).take ([i753].length))).length)))), (6, I i753)], [.row .nod x1 false, .row .rcd x2 false, .row .int (x752 ++ (([i753].drop 0).take ([i753].length))) true]⟩ (by kernel_rfl) ⟨hg1134, trivial⟩ ?_
          refine WO_nil rfl ?_
          cases hx1131
          exact And.intro rfl rfl
        · refine W_sub [0, 1, 2] [1, 5, 6] (st' := ⟨[(1, .one (.e (.sl 1 0 x2.length))), (5, .one (.e (.sl 2 0 x752.length))), (6, I i753)], [.row .nod x1 false, .row .rcd x2 false, .row .int x752 true]⟩) (by kernel_rfl) ?_
          refine W_skip ?_
          cases hx1131
          exact And.intro rfl rfl
      · rintro _ _ ⟨rfl, rfl⟩
        refine blockS_n ?_
        refine thenS_n ?_
        refine W_region ?_
        refine WO_step 3 [0, 1, 2] [1, 5, 6] (True ∧ True) ⟨[(1, .one (.e (.sl 1 0 x2.length))), (5, .one (.e (.sl 2 0 x1131.length))), (6, I (w64 (i753 + 1)))], [.row .nod x1 false, .row .rcd x2 false, .row .int x1131 true]⟩ (by kernel_rfl) ⟨trivial, trivial⟩ ?_
        refine WO_nil rfl ?_
        refine thenS_n ?_
        exact ih _ _ h
    · refine W_sub [0, 1, 2] [5] (st' := ⟨[(5, .one (.e (.sl 2 0 x752.length)))], [.row .nod x1 false, .row .rcd x2 false, .row .int x752 true]⟩) (by kernel_rfl) ?_
      refine W_exit ?_
      refine thenS_e ?_
      refine thenS_e ?_
      cases h
      exact And.intro rfl rfl

def spec_LosersOf (n : Nat) (x1 : List Nod) (x2 : List Rcd) : Option ((List Int)) :=
 bindO (spec_validTree n x1) fun b564 =>
 bindO (iteO (!b564)
 (some true)
 (bindO (spec_validLog n x1 x2) fun b572 =>
 some (!b572))) fun b569 =>
 iteO b569
 (some ([] : List Int))
 (bindO (spec_LosersOf_L1 x2 x1 n ([] : List Int) 0) fun x926 =>
 some x926)

theorem spec_LosersOf_ok (n : Nat) (x1 : List Nod) (x2 : List Rcd) (x563 : List Int) (h : spec_LosersOf n x1 x2 = some x563) : FOk EE 15 [.one (.e (.sl 0 0 x1.length)), .one (.e (.sl 1 0 x2.length))] [.row .nod x1 false, .row .rcd x2 false] (.one (.e (.sl 2 0 x563.length))) [.row .nod x1 false, .row .rcd x2 false, .row .int x563 true] := by
  unfold spec_LosersOf at h
  refine FOk_of_W 61 2 Try.func15 rfl rfl (Nat.le_of_ble_eq_true rfl) rfl (fun w X θ => ?_)
  refine W_seq ?_
  refine W_region ?_
  refine WO_step 1 [0, 1] [0, 1] True ⟨[(0, .one (.e (.sl 0 0 x1.length))), (1, .one (.e (.sl 1 0 x2.length)))], [.row .nod x1 false, .row .rcd x2 false]⟩ (by kernel_rfl) trivial ?_
  refine WO_nil rfl ?_
  refine thenS_n ?_
  refine W_seq ?_
  refine W_region ?_
  refine WO_step 2 [0, 1, 2] [0, 1, 5] True ⟨[(0, .one (.e (.sl 0 0 x1.length))), (1, .one (.e (.sl 1 0 x2.length))), (5, .one (.e (.sl 2 0 (([] : List Int).length))))], [.row .nod x1 false, .row .rcd x2 false, .row .int ([] : List Int) true]⟩ (by kernel_rfl) trivial ?_
  refine WO_nil rfl ?_
  refine thenS_n ?_
  refine W_seq ?_
  refine W_seq ?_
  refine W_region ?_
  refine WO_step 1 [0, 1, 2] [0, 1, 5, 10] True ⟨[(0, .one (.e (.sl 0 0 x1.length))), (1, .one (.e (.sl 1 0 x2.length))), (5, .one (.e (.sl 2 0 (([] : List Int).length)))), (10, .one (.e (.sl 0 0 x1.length)))], [.row .nod x1 false, .row .rcd x2 false, .row .int ([] : List Int) true]⟩ (by kernel_rfl) trivial ?_
  refine bindO_e h (fun b564 hc565 h => ?_)
  refine WO_call [.ro 0] Try.f42 rfl rfl rfl (by kernel_rfl) rfl rfl (by kernel_rfl) (spec_validTree_ok n x1 b564 hc565) (And.intro (And.intro rfl rfl) (trivial)) rfl ?_
  refine WO_step 2 [0, 1, 2] [0, 1, 5, 13] True ⟨[(0, .one (.e (.sl 0 0 x1.length))), (1, .one (.e (.sl 1 0 x2.length))), (5, .one (.e (.sl 2 0 (([] : List Int).length)))), (13, B (!b564))], [.row .nod x1 false, .row .rcd x2 false, .row .int ([] : List Int) true]⟩ (by kernel_rfl) trivial ?_
  refine bindO_e h (fun b569 hv570 h => ?_)
  refine WO_thru ⟨[(1, .one (.e (.sl 1 0 x2.length))), (5, .one (.e (.sl 2 0 (([] : List Int).length)))), (18, B b569)], [.row .nod x1 false, .row .rcd x2 false, .row .int ([] : List Int) true]⟩ ?_ ?_
  · refine iteO_e hv570 (fun hb571 hv570 => WO_known 13 true rfl hb571 ?_) (fun hb571 hv570 => WO_known 13 false rfl hb571 ?_)
    · refine WO_step 5 [0, 1, 2] [1, 5, 18] True ⟨[(1, .one (.e (.sl 1 0 x2.length))), (5, .one (.e (.sl 2 0 (([] : List Int).length)))), (18, B true)], [.row .nod x1 false, .row .rcd x2 false, .row .int ([] : List Int) true]⟩ (by kernel_rfl) trivial ?_
      cases hv570
      exact WO_nil rfl ⟨rfl, rfl⟩
    · refine WO_step 2 [0, 1, 2] [1, 5, 13, 14, 15] True ⟨[(1, .one (.e (.sl 1 0 x2.length))), (5, .one (.e (.sl 2 0 (([] : List Int).length)))), (13, B false), (14, .one (.e (.sl 0 0 x1.length))), (15, .one (.e (.sl 1 0 x2.length)))], [.row .nod x1 false, .row .rcd x2 false, .row .int ([] : List Int) true]⟩ (by kernel_rfl) trivial ?_
      refine bindO_e hv570 (fun b572 hc573 hv570 => ?_)
      refine WO_call [.ro 0, .ro 1] Try.f43 rfl rfl rfl (by kernel_rfl) rfl rfl (by kernel_rfl) (spec_validLog_ok n x1 x2 b572 hc573) (And.intro (And.intro rfl rfl) (And.intro (And.intro rfl rfl) (trivial))) rfl ?_
      refine WO_step 2 [0, 1, 2] [1, 5, 18] True ⟨[(1, .one (.e (.sl 1 0 x2.length))), (5, .one (.e (.sl 2 0 (([] : List Int).length)))), (18, B (!b572))], [.row .nod x1 false, .row .rcd x2 false, .row .int ([] : List Int) true]⟩ (by kernel_rfl) trivial ?_
      cases hv570
      exact WO_nil rfl ⟨rfl, rfl⟩
  · refine thenS_n ?_
    refine iteO_e h (fun hb575 h => W_true rfl hb575 ?_) (fun hb575 h => W_false rfl hb575 ?_)
    · refine W_seq ?_
      refine W_region ?_
      refine WO_step 1 [0, 1] [4] True ⟨[(4, .one (.e (.nsl)))], [.row .nod x1 false, .row .rcd x2 false]⟩ (by kernel_rfl) trivial ?_
      refine WO_nilrow 4 .int rfl ?_
      refine WO_sub [0, 1, 2] [4] (st' := ⟨[(4, .one (.e (.sl 2 0 (([] : List Int).length))))], [.row .nod x1 false, .row .rcd x2 false, .row .int ([] : List Int) true]⟩) (by kernel_rfl) ?_
      refine WO_nil rfl ?_
      refine thenS_n ?_
      refine W_ret ?_
      refine thenS_r ?_
      cases h
      exact ⟨[0, 1, 2], True, by kernel_rfl, trivial⟩
    · refine W_sub [0, 1, 2] [1, 5] (st' := ⟨[(1, .one (.e (.sl 1 0 x2.length))), (5, .one (.e (.sl 2 0 (([] : List Int).length))))], [.row .nod x1 false, .row .rcd x2 false, .row .int ([] : List Int) true]⟩) (by kernel_rfl) ?_
      refine W_skip ?_
      refine thenS_n ?_
      refine W_seq ?_
      refine W_seq ?_
      refine W_region ?_
      refine WO_step 1 [0, 1, 2] [1, 5, 6] True ⟨[(1, .one (.e (.sl 1 0 x2.length))), (5, .one (.e (.sl 2 0 (([] : List Int).length)))), (6, I 0)], [.row .nod x1 false, .row .rcd x2 false, .row .int ([] : List Int) true]⟩ (by kernel_rfl) trivial ?_
      refine WO_nil rfl ?_
      refine thenS_n ?_
      refine W_block ?_
      refine W_loop ?_
      refine bindO_e h (fun x926 hx926 h => ?_)
      refine WL_cut (spec_LosersOf_L1_ok w X θ x2 x1 x926 n ([] : List Int) 0 hx926) ?_
      rintro _ _ ⟨rfl, rfl⟩
      refine blockS_y ?_
      refine thenS_n ?_
      refine W_seq ?_
      refine W_region ?_
      refine WO_step 2 [0, 1, 2] [4] True ⟨[(4, .one (.e (.sl 2 0 x926.length)))], [.row .nod x1 false, .row .rcd x2 false, .row .int x926 true]⟩ (by kernel_rfl) trivial ?_
      refine WO_nil rfl ?_
      refine thenS_n ?_
      refine W_ret ?_
      cases h
      exact ⟨[0, 1, 2], True, by kernel_rfl, trivial⟩

/- impl.Node] -/
def slices_Clone_Node (x1 : List Nod) : Option (List Nod) :=
 guardO (x1.length ≤ 1099511627776) <|
 some x1

theorem slices_Clone_Node_ok (x1 x2 : List Nod) (h : slices_Clone_Node x1 = some x2) : FOk EE 47 [.one (.e (.sl 0 0 x1.length))] [.row .nod x1 false] (.one (.e (.sl 1 0 x2.length))) [.row .nod x1 false, .row .nod x2 true] := by
  unfold slices_Clone_Node at h
  refine guardO_e h (fun hg h => ?_)
  cases h
  refine FOk_of_W 8 1 Try.func47 rfl rfl (Nat.le_of_ble_eq_true rfl) rfl (fun w X θ => ?_)
  refine W_seq ?_
  refine W_region ?_
  refine WO_step 1 [0] [0] True ⟨[(0, .one (.e (.sl 0 0 x1.length)))], [.row .nod x1 false]⟩ (by kernel_rfl) trivial ?_
  refine WO_nil rfl ?_
  refine thenS_n ?_
  refine W_seq ?_
  refine W_seq ?_
  refine W_region ?_
  refine WO_step 1 [0] [0, 3] True ⟨[(0, .one (.e (.sl 0 0 x1.length))), (3, .one (.e (.sl 0 0 x1.length)))], [.row .nod x1 false]⟩ (by kernel_rfl) trivial ?_
  refine WO_isnil (R := .nod) (xs := x1) (own := false) rfl rfl rfl rfl Try.underlying23 rfl rfl rfl (fun b hb => ?_)
  refine WO_nil rfl ?_
  refine thenS_n ?_
  cases b with
  | true =>
    have e : x1 = [] := List.eq_nil_of_length_eq_zero (hb rfl)
    subst e
    refine W_true rfl rfl ?_
    refine W_seq ?_
    refine W_region ?_
    refine WO_step 1 [0] [2] True ⟨[(2, .one (.e .nsl))], [.row .nod [] false]⟩ (by kernel_rfl) trivial ?_
    refine WO_nil rfl ?_
    refine thenS_n ?_
    refine W_nil 2 .nod rfl ?_
    refine W_ret ?_
    refine thenS_r ?_
    exact ⟨[0, 1], True, by kernel_rfl, trivial⟩
  | false =>
    refine W_false rfl rfl ?_
    refine W_sub [0] [0] (st' := ⟨[(0, .one (.e (.sl 0 0 x1.length)))], [.row .nod x1 false]⟩) (by kernel_rfl) ?_
    refine W_skip ?_
    refine thenS_n ?_
    refine W_seq ?_
    refine W_region ?_
    refine WO_step 4 [0, 2] [2] ((0 = 0 ∧ 0 = ([] : List Nod).length ∧ ([] : List Nod).length + ((x1.drop 0).take x1.length).length ≤ 1099511627776) ∧ True) ⟨[(2, .one (.e (.sl 1 0 (([] : List Nod) ++ ((x1.drop 0).take x1.length)).length)))], [.row .nod x1 false, .row .nod (([] : List Nod) ++ ((x1.drop 0).take x1.length)) true]⟩ (by kernel_rfl) ⟨⟨rfl, rfl, by simpa using hg⟩, trivial⟩ ?_
    refine WO_eq (st' := ⟨[(2, .one (.e (.sl 1 0 x1.length)))], [.row .nod x1 false, .row .nod x1 true]⟩) (by simp only [List.drop_zero, List.take_length, List.nil_append]) ?_
    refine WO_nil rfl ?_
    refine thenS_n ?_
    refine W_ret ?_
    exact ⟨[0, 1], True, by kernel_rfl, trivial⟩

/- impl.RedoLog -/
def impl_RedoLog_L1 (x2 : List Rcd) (x1 : List Nod) : Nat → (List Nod) → Int → Option ((List Nod))
| 0, _, _ => none
| n + 1, x98, i99 =>
 iteO (decide (i99 < ((x2.length : Nat) : Int)))
 (guardO (0 ≤ i99 ∧ i99 < ((x2.length : Nat) : Int)) <|
 bindO (impl_isDone n x2 i99) fun b130 =>
 bindO (iteO b130
 (guardO (0 ≤ (x2.getD i99.toNat drcd).node ∧ (x2.getD i99.toNat drcd).node < ((x98.length : Nat) : Int)) <|
 some (x98.set (((x2.getD i99.toNat drcd).node).toNat) (⟨(x98.getD (((x2.getD i99.toNat drcd).node).toNat) dnod).parent, (x98.getD (((x2.getD i99.toNat drcd).node).toNat) dnod).name, (x2.getD i99.toNat drcd).value⟩ : Nod)))
 (some x98)) fun x134 =>
 impl_RedoLog_L1 x2 x1 n x134 (w64 (i99 + 1)))
 (some x98)

theorem impl_RedoLog_L1_ok (w : World) (X : Nat → Prop) (θ : List Loc) (x2 : List Rcd) (x1 : List Nod) (x118 : (List Nod)) : ∀ (n : Nat) (x98 : List Nod) (i99 : Int), impl_RedoLog_L1 x2 x1 n x98 i99 = some x118 → WL EE ⟨w, X, θ, 33, 2⟩ (subC [1, 1, 1, 0, 1, 4, 4] (bodyC Try.f19)) (fun (e : Exit) (s : St) => e = .exit 0 ∧ s = ⟨[(5, .one (.e (.sl 2 0 x118.length)))], [.row .nod x1 false, .row .rcd x2 false, .row .nod x118 true]⟩) ⟨[(1, .one (.e (.sl 1 0 x2.length))), (5, .one (.e (.sl 2 0 x98.length))), (14, .one (.e (.sl 1 0 x2.length))), (15, I ((x2.length : Nat) : Int)), (16, I i99)], [.row .nod x1 false, .row .rcd x2 false, .row .nod x98 true]⟩ := by
  intro n
  induction n with
  | zero => intro _ _ h; exact none_e h
  | succ n ih =>
    intro x98 i99 h
    rw [impl_RedoLog_L1] at h
    refine WL_round ?_
    refine W_seq ?_
    refine W_region ?_
    refine WO_step 1 [0, 1, 2] [1, 5, 14, 15, 16, 17] (True ∧ True) ⟨[(1, .one (.e (.sl 1 0 x2.length))), (5, .one (.e (.sl 2 0 x98.length))), (14, .one (.e (.sl 1 0 x2.length))), (15, I ((x2.length : Nat) : Int)), (16, I i99), (17, B (decide (i99 < ((x2.length : Nat) : Int))))], [.row .nod x1 false, .row .rcd x2 false, .row .nod x98 true]⟩ (by kernel_rfl) ⟨trivial, trivial⟩ ?_
    refine WO_nil rfl ?_
    refine thenS_n ?_
    refine W_seq ?_
    refine iteO_e h (fun hb121 h => W_true rfl hb121 ?_) (fun hb121 h => W_false rfl hb121 ?_)
    · refine W_sub [0, 1, 2] [1, 5, 14, 15, 16] (st' := ⟨[(1, .one (.e (.sl 1 0 x2.length))), (5, .one (.e (.sl 2 0 x98.length))), (14, .one (.e (.sl 1 0 x2.length))), (15, I ((x2.length : Nat) : Int)), (16, I i99)], [.row .nod x1 false, .row .rcd x2 false, .row .nod x98 true]⟩) (by kernel_rfl) ?_
      refine W_skip ?_
      refine thenS_n ?_
      refine W_seq ?_
      refine W_block ?_
      refine W_seq ?_
      refine W_region ?_
      refine guardO_e h (fun hg129 h => ?_)
      refine WO_step 6 [0, 1, 2, 3] [1, 5, 6, 7, 14, 15, 16] ((0 ≤ i99 ∧ i99 < ((x2.length : Nat) : Int)) ∧ (True ∧ (True ∧ (True ∧ True)))) ⟨[(1, .one (.e (.sl 1 0 x2.length))), (5, .one (.e (.sl 2 0 x98.length))), (6, I i99), (7, .one (.e (.p 3 0))), (14, .one (.e (.sl 1 0 x2.length))), (15, I ((x2.length : Nat) : Int)), (16, I i99)], [.row .nod x1 false, .row .rcd x2 false, .row .nod x98 true, .cells [cI ((x2.getD i99.toNat drcd).who), cI ((x2.getD i99.toNat drcd).node), cI ((x2.getD i99.toNat drcd).value), cB ((x2.getD i99.toNat drcd).fin)]]⟩ (by kernel_rfl) ⟨hg129, trivial, trivial, trivial, trivial⟩ ?_
      refine WO_nil rfl ?_
      refine thenS_n ?_
      refine W_seq ?_
      refine W_region ?_
      refine WO_step 2 [0, 1, 2, 3] [1, 5, 7, 14, 15, 16, 21, 22] True ⟨[(1, .one (.e (.sl 1 0 x2.length))), (5, .one (.e (.sl 2 0 x98.length))), (7, .one (.e (.p 3 0))), (14, .one (.e (.sl 1 0 x2.length))), (15, I ((x2.length : Nat) : Int)), (16, I i99), (21, .one (.e (.sl 1 0 x2.length))), (22, I i99)], [.row .nod x1 false, .row .rcd x2 false, .row .nod x98 true, .cells [cI ((x2.getD i99.toNat drcd).who), cI ((x2.getD i99.toNat drcd).node), cI ((x2.getD i99.toNat drcd).value), cB ((x2.getD i99.toNat drcd).fin)]]⟩ (by kernel_rfl) trivial ?_
      refine bindO_e h (fun b130 hc131 h => ?_)
      refine WO_call [.ro 1] Try.f40 rfl rfl rfl (by kernel_rfl) rfl rfl (by kernel_rfl) (impl_isDone_ok n x2 i99 b130 hc131) (And.intro (And.intro rfl rfl) (trivial)) rfl ?_
      refine WO_sub [0, 1, 2, 3] [1, 5, 7, 14, 15, 16, 23] (st' := ⟨[(1, .one (.e (.sl 1 0 x2.length))), (5, .one (.e (.sl 2 0 x98.length))), (7, .one (.e (.p 3 0))), (14, .one (.e (.sl 1 0 x2.length))), (15, I ((x2.length : Nat) : Int)), (16, I i99), (23, B b130)], [.row .nod x1 false, .row .rcd x2 false, .row .nod x98 true, .cells [cI ((x2.getD i99.toNat drcd).who), cI ((x2.getD i99.toNat drcd).node), cI ((x2.getD i99.toNat drcd).value), cB ((x2.getD i99.toNat drcd).fin)]]⟩) (by kernel_rfl) ?_
      refine WO_nil rfl ?_
      refine thenS_n ?_
      refine bindO_e h (fun x134 hx134 h => ?_)
      refine W_cut (Q' := fun (e : Exit) (s : St) => e = .normal ∧ s = ⟨[(1, .one (.e (.sl 1 0 x2.length))), (5, .one (.e (.sl 2 0 x134.length))), (14, .one (.e (.sl 1 0 x2.length))), (15, I ((x2.length : Nat) : Int)), (16, I i99)], [.row .nod x1 false, .row .rcd x2 false, .row .nod x134 true]⟩) ?_ ?_
      · refine iteO_e hx134 (fun hb136 hx134 => W_true rfl hb136 ?_) (fun hb136 hx134 => W_false rfl hb136 ?_)
        · refine W_region ?_
          refine guardO_e hx134 (fun hg137 hx134 => ?_)
          refine WO_step 8 [0, 1, 2] [1, 5, 14, 15, 16] (True ∧ (True ∧ ((0 ≤ (x2.getD i99.toNat drcd).node ∧ (x2.getD i99.toNat drcd).node < ((x98.length : Nat) : Int)) ∧ (True ∧ True)))) ⟨[(1, .one (.e (.sl 1 0 x2.length))), (5, .one (.e (.sl 2 0 x98.length))), (14, .one (.e (.sl 1 0 x2.length))), (15, I ((x2.length : Nat) : Int)), (16, I i99)], [.row .nod x1 false, .row .rcd x2 false, .row .nod (x98.set (((x2.getD i99.toNat drcd).node).toNat) (⟨(x98.getD (((x2.getD i99.toNat drcd).node).toNat) dnod).parent, (x98.getD (((x2.getD i99.toNat drcd).node).toNat) dnod).name, (x2.getD i99.toNat drcd).value⟩ : Nod)) true]⟩ (by kernel_rfl) ⟨trivial, trivial, hg137, trivial, trivial⟩ ?_
          refine WO_eq (st' := ⟨[(1, .one (.e (.sl 1 0 x2.length))), (5, .one (.e (.sl 2 0 ((x98.set (((x2.getD i99.toNat drcd).node).toNat) (⟨(x98.getD (((x2.getD i99.toNat drcd).node).toNat) dnod).parent, (x98.getD (((x2.getD i99.toNat drcd).node).toNat) dnod).name, (x2.getD i99.toNat drcd).value⟩ : Nod)).length)))), (14, .one (.e (.sl 1 0 x2.length))), (15, I ((x2.length : Nat) : Int)), (16, I i99)], [.row .nod x1 false, .row .rcd x2 false, .row .nod (x98.set (((x2.getD i99.toNat drcd).node).toNat) (⟨(x98.getD (((x2.getD i99.toNat drcd).node).toNat) dnod).parent, (x98.getD (((x2.getD i99.toNat drcd).node).toNat) dnod).name, (x2.getD i99.toNat drcd).value⟩ : Nod)) true]⟩) (by simp only [List.length_set]) ?_
          refine WO_nil rfl ?_
          cases hx134
          exact And.intro rfl rfl
        · refine W_sub [0, 1, 2] [1, 5, 14, 15, 16] (st' := ⟨[(1, .one (.e (.sl 1 0 x2.length))), (5, .one (.e (.sl 2 0 x98.length))), (14, .one (.e (.sl 1 0 x2.length))), (15, I ((x2.length : Nat) : Int)), (16, I i99)], [.row .nod x1 false, .row .rcd x2 false, .row .nod x98 true]⟩) (by kernel_rfl) ?_
          refine W_skip ?_
          cases hx134
          exact And.intro rfl rfl
      · rintro _ _ ⟨rfl, rfl⟩
        refine blockS_n ?_
        refine thenS_n ?_
        refine W_region ?_
        refine WO_step 2 [0, 1, 2] [1, 5, 14, 15, 16] (True ∧ True) ⟨[(1, .one (.e (.sl 1 0 x2.length))), (5, .one (.e (.sl 2 0 x134.length))), (14, .one (.e (.sl 1 0 x2.length))), (15, I ((x2.length : Nat) : Int)), (16, I (w64 (i99 + 1)))], [.row .nod x1 false, .row .rcd x2 false, .row .nod x134 true]⟩ (by kernel_rfl) ⟨trivial, trivial⟩ ?_
        refine WO_nil rfl ?_
        refine thenS_n ?_
        exact ih _ _ h
    · refine W_sub [0, 1, 2] [5] (st' := ⟨[(5, .one (.e (.sl 2 0 x98.length)))], [.row .nod x1 false, .row .rcd x2 false, .row .nod x98 true]⟩) (by kernel_rfl) ?_
      refine W_exit ?_
      refine thenS_e ?_
      refine thenS_e ?_
      cases h
      exact And.intro rfl rfl

def impl_RedoLog (n : Nat) (x1 : List Nod) (x2 : List Rcd) : Option ((List Nod)) :=
 bindO (impl_ValidLog n x1 x2) fun b70 =>
 iteO (!b70)
 (some ([] : List Nod))
 (bindO (slices_Clone_Node x1) fun x74 =>
 bindO (impl_RedoLog_L1 x2 x1 n x74 0) fun x118 =>
 some x118)

theorem impl_RedoLog_ok (n : Nat) (x1 : List Nod) (x2 : List Rcd) (x69 : List Nod) (h : impl_RedoLog n x1 x2 = some x69) : FOk EE 19 [.one (.e (.sl 0 0 x1.length)), .one (.e (.sl 1 0 x2.length))] [.row .nod x1 false, .row .rcd x2 false] (.one (.e (.sl 2 0 x69.length))) [.row .nod x1 false, .row .rcd x2 false, .row .nod x69 true] := by
  unfold impl_RedoLog at h
  refine FOk_of_W 33 2 Try.func19 rfl rfl (Nat.le_of_ble_eq_true rfl) rfl (fun w X θ => ?_)
  refine W_seq ?_
  refine W_region ?_
  refine WO_step 1 [0, 1] [0, 1] True ⟨[(0, .one (.e (.sl 0 0 x1.length))), (1, .one (.e (.sl 1 0 x2.length)))], [.row .nod x1 false, .row .rcd x2 false]⟩ (by kernel_rfl) trivial ?_
  refine WO_nil rfl ?_
  refine thenS_n ?_
  refine W_seq ?_
  refine W_seq ?_
  refine W_region ?_
  refine WO_step 2 [0, 1] [0, 1, 8, 9] True ⟨[(0, .one (.e (.sl 0 0 x1.length))), (1, .one (.e (.sl 1 0 x2.length))), (8, .one (.e (.sl 0 0 x1.length))), (9, .one (.e (.sl 1 0 x2.length)))], [.row .nod x1 false, .row .rcd x2 false]⟩ (by kernel_rfl) trivial ?_
  refine bindO_e h (fun b70 hc71 h => ?_)
  refine WO_call [.ro 0, .ro 1] Try.f16 rfl rfl rfl (by kernel_rfl) rfl rfl (by kernel_rfl) (impl_ValidLog_ok n x1 x2 b70 hc71) (And.intro (And.intro rfl rfl) (And.intro (And.intro rfl rfl) (trivial))) rfl ?_
  refine WO_step 1 [0, 1] [0, 1, 11] True ⟨[(0, .one (.e (.sl 0 0 x1.length))), (1, .one (.e (.sl 1 0 x2.length))), (11, B (!b70))], [.row .nod x1 false, .row .rcd x2 false]⟩ (by kernel_rfl) trivial ?_
  refine WO_nil rfl ?_
  refine thenS_n ?_
  refine iteO_e h (fun hb73 h => W_true rfl hb73 ?_) (fun hb73 h => W_false rfl hb73 ?_)
  · refine W_seq ?_
    refine W_region ?_
    refine WO_step 1 [0, 1] [4] True ⟨[(4, .one (.e (.nsl)))], [.row .nod x1 false, .row .rcd x2 false]⟩ (by kernel_rfl) trivial ?_
    refine WO_nilrow 4 .nod rfl ?_
    refine WO_sub [0, 1, 2] [4] (st' := ⟨[(4, .one (.e (.sl 2 0 (([] : List Nod).length))))], [.row .nod x1 false, .row .rcd x2 false, .row .nod ([] : List Nod) true]⟩) (by kernel_rfl) ?_
    refine WO_nil rfl ?_
    refine thenS_n ?_
    refine W_ret ?_
    refine thenS_r ?_
    cases h
    exact ⟨[0, 1, 2], True, by kernel_rfl, trivial⟩
  · refine W_sub [0, 1] [0, 1] (st' := ⟨[(0, .one (.e (.sl 0 0 x1.length))), (1, .one (.e (.sl 1 0 x2.length)))], [.row .nod x1 false, .row .rcd x2 false]⟩) (by kernel_rfl) ?_
    refine W_skip ?_
    refine thenS_n ?_
    refine W_seq ?_
    refine W_region ?_
    refine WO_step 1 [0, 1] [1, 12] True ⟨[(1, .one (.e (.sl 1 0 x2.length))), (12, .one (.e (.sl 0 0 x1.length)))], [.row .nod x1 false, .row .rcd x2 false]⟩ (by kernel_rfl) trivial ?_
    refine bindO_e h (fun x74 hc75 h => ?_)
    refine WO_call [.ro 0] Try.f47 rfl rfl rfl (by kernel_rfl) rfl rfl (by kernel_rfl) (slices_Clone_Node_ok x1 x74 hc75) (And.intro (And.intro rfl rfl) (trivial)) rfl ?_
    refine WO_step 1 [0, 1, 2] [1, 5] True ⟨[(1, .one (.e (.sl 1 0 x2.length))), (5, .one (.e (.sl 2 0 x74.length)))], [.row .nod x1 false, .row .rcd x2 false, .row .nod x74 true]⟩ (by kernel_rfl) trivial ?_
    refine WO_nil rfl ?_
    refine thenS_n ?_
    refine W_seq ?_
    refine W_seq ?_
    refine W_region ?_
    refine WO_step 3 [0, 1, 2] [1, 5, 14, 15, 16] (True ∧ True) ⟨[(1, .one (.e (.sl 1 0 x2.length))), (5, .one (.e (.sl 2 0 x74.length))), (14, .one (.e (.sl 1 0 x2.length))), (15, I ((x2.length : Nat) : Int)), (16, I 0)], [.row .nod x1 false, .row .rcd x2 false, .row .nod x74 true]⟩ (by kernel_rfl) ⟨trivial, trivial⟩ ?_
    refine WO_nil rfl ?_
    refine thenS_n ?_
    refine W_block ?_
    refine W_loop ?_
    refine bindO_e h (fun x118 hx118 h => ?_)
    refine WL_cut (impl_RedoLog_L1_ok w X θ x2 x1 x118 n x74 0 hx118) ?_
    rintro _ _ ⟨rfl, rfl⟩
    refine blockS_y ?_
    refine thenS_n ?_
    refine W_seq ?_
    refine W_region ?_
    refine WO_step 2 [0, 1, 2] [4] True ⟨[(4, .one (.e (.sl 2 0 x118.length)))], [.row .nod x1 false, .row .rcd x2 false, .row .nod x118 true]⟩ (by kernel_rfl) trivial ?_
    refine WO_nil rfl ?_
    refine thenS_n ?_
    refine W_ret ?_
    cases h
    exact ⟨[0, 1, 2], True, by kernel_rfl, trivial⟩

/- spec.RedoLog -/
def spec_RedoLog_L1 (x2 : List Rcd) (x1 : List Nod) : Nat → (List Nod) → Int → Option ((List Nod))
| 0, _, _ => none
| n + 1, x192, i193 =>
 iteO (decide (i193 < ((x2.length : Nat) : Int)))
 (guardO (0 ≤ i193 ∧ i193 < ((x2.length : Nat) : Int)) <|
 bindO (iteO (!(x2.getD i193.toNat drcd).fin)
 (guardO (0 ≤ i193 ∧ i193 < ((x2.length : Nat) : Int)) <|
 bindO (spec_ended n x2 (w64 (i193 + 1)) ((x2.getD i193.toNat drcd).who)) fun b262 =>
 some b262)
 (some false)) fun b258 =>
 bindO (iteO b258
 (guardO (0 ≤ i193 ∧ i193 < ((x2.length : Nat) : Int)) <|
 guardO (0 ≤ i193 ∧ i193 < ((x2.length : Nat) : Int)) <|
 guardO (0 ≤ (x2.getD i193.toNat drcd).node ∧ (x2.getD i193.toNat drcd).node < ((x192.length : Nat) : Int)) <|
 some (x192.set (((x2.getD i193.toNat drcd).node).toNat) (⟨(x192.getD (((x2.getD i193.toNat drcd).node).toNat) dnod).parent, (x192.getD (((x2.getD i193.toNat drcd).node).toNat) dnod).name, (x2.getD i193.toNat drcd).value⟩ : Nod)))
 (some x192)) fun x268 =>
 spec_RedoLog_L1 x2 x1 n x268 (w64 (i193 + 1)))
 (some x192)

theorem spec_RedoLog_L1_ok (w : World) (X : Nat → Prop) (θ : List Loc) (x2 : List Rcd) (x1 : List Nod) (x232 : (List Nod)) : ∀ (n : Nat) (x192 : List Nod) (i193 : Int), spec_RedoLog_L1 x2 x1 n x192 i193 = some x232 → WL EE ⟨w, X, θ, 56, 2⟩ (subC [1, 1, 1, 0, 1, 4, 4] (bodyC Try.f21)) (fun (e : Exit) (s : St) => e = .exit 0 ∧ s = ⟨[(5, .one (.e (.sl 2 0 x232.length)))], [.row .nod x1 false, .row .rcd x2 false, .row .nod x232 true]⟩) ⟨[(1, .one (.e (.sl 1 0 x2.length))), (5, .one (.e (.sl 2 0 x192.length))), (6, I i193)], [.row .nod x1 false, .row .rcd x2 false, .row .nod x192 true]⟩ := by
  intro n
  induction n with
  | zero => intro _ _ h; exact none_e h
  | succ n ih =>
    intro x192 i193 h
    rw [spec_RedoLog_L1] at h
    refine WL_round ?_
    refine W_seq ?_
    refine W_seq ?_
    refine W_region ?_
    refine WO_step 4 [0, 1, 2] [1, 5, 6, 22] (True ∧ (True ∧ True)) ⟨[(1, .one (.e (.sl 1 0 x2.length))), (5, .one (.e (.sl 2 0 x192.length))), (6, I i193), (22, B (decide (i193 < ((x2.length : Nat) : Int))))], [.row .nod x1 false, .row .rcd x2 false, .row .nod x192 true]⟩ (by kernel_rfl) ⟨trivial, trivial, trivial⟩ ?_
    refine WO_nil rfl ?_
    refine thenS_n ?_
    refine iteO_e h (fun hb235 h => W_true rfl hb235 ?_) (fun hb235 h => W_false rfl hb235 ?_)
    · refine W_sub [0, 1, 2] [1, 5, 6] (st' := ⟨[(1, .one (.e (.sl 1 0 x2.length))), (5, .one (.e (.sl 2 0 x192.length))), (6, I i193)], [.row .nod x1 false, .row .rcd x2 false, .row .nod x192 true]⟩) (by kernel_rfl) ?_
      refine W_skip ?_
      refine thenS_n ?_
      refine W_seq ?_
      refine W_block ?_
      refine W_seq ?_
      refine W_region ?_
      refine guardO_e h (fun hg253 h => ?_)
      refine WO_step 7 [0, 1, 2] [1, 5, 6, 31] ((0 ≤ i193 ∧ i193 < ((x2.length : Nat) : Int)) ∧ (True ∧ True)) ⟨[(1, .one (.e (.sl 1 0 x2.length))), (5, .one (.e (.sl 2 0 x192.length))), (6, I i193), (31, B (!(x2.getD i193.toNat drcd).fin))], [.row .nod x1 false, .row .rcd x2 false, .row .nod x192 true]⟩ (by kernel_rfl) ⟨hg253, trivial, trivial⟩ ?_
      refine bindO_e h (fun b258 hv259 h => ?_)
      refine WO_thru ⟨[(1, .one (.e (.sl 1 0 x2.length))), (5, .one (.e (.sl 2 0 x192.length))), (6, I i193), (41, B b258)], [.row .nod x1 false, .row .rcd x2 false, .row .nod x192 true]⟩ ?_ ?_
      · refine iteO_e hv259 (fun hb260 hv259 => WO_known 31 true rfl hb260 ?_) (fun hb260 hv259 => WO_known 31 false rfl hb260 ?_)
        · refine guardO_e hv259 (fun hg261 hv259 => ?_)
          refine WO_step 8 [0, 1, 2] [1, 5, 6, 31, 32, 34, 39] (True ∧ ((0 ≤ i193 ∧ i193 < ((x2.length : Nat) : Int)) ∧ (True ∧ True))) ⟨[(1, .one (.e (.sl 1 0 x2.length))), (5, .one (.e (.sl 2 0 x192.length))), (6, I i193), (31, B true), (32, .one (.e (.sl 1 0 x2.length))), (34, I (w64 (i193 + 1))), (39, I ((x2.getD i193.toNat drcd).who))], [.row .nod x1 false, .row .rcd x2 false, .row .nod x192 true]⟩ (by kernel_rfl) ⟨trivial, hg261, trivial, trivial⟩ ?_
          refine bindO_e hv259 (fun b262 hc263 hv259 => ?_)
          refine WO_call [.ro 1] Try.f44 rfl rfl rfl (by kernel_rfl) rfl rfl (by kernel_rfl) (spec_ended_ok n x2 (w64 (i193 + 1)) ((x2.getD i193.toNat drcd).who) b262 hc263) (And.intro (And.intro rfl rfl) (trivial)) rfl ?_
          refine WO_step 1 [0, 1, 2] [1, 5, 6, 41] True ⟨[(1, .one (.e (.sl 1 0 x2.length))), (5, .one (.e (.sl 2 0 x192.length))), (6, I i193), (41, B b262)], [.row .nod x1 false, .row .rcd x2 false, .row .nod x192 true]⟩ (by kernel_rfl) trivial ?_
          cases hv259
          exact WO_nil rfl ⟨rfl, rfl⟩
        · refine WO_step 10 [0, 1, 2] [1, 5, 6, 41] True ⟨[(1, .one (.e (.sl 1 0 x2.length))), (5, .one (.e (.sl 2 0 x192.length))), (6, I i193), (41, B false)], [.row .nod x1 false, .row .rcd x2 false, .row .nod x192 true]⟩ (by kernel_rfl) trivial ?_
          cases hv259
          exact WO_nil rfl ⟨rfl, rfl⟩
      · refine thenS_n ?_
        refine bindO_e h (fun x268 hx268 h => ?_)
        refine W_cut (Q' := fun (e : Exit) (s : St) => e = .normal ∧ s = ⟨[(1, .one (.e (.sl 1 0 x2.length))), (5, .one (.e (.sl 2 0 x268.length))), (6, I i193)], [.row .nod x1 false, .row .rcd x2 false, .row .nod x268 true]⟩) ?_ ?_
        · refine iteO_e hx268 (fun hb270 hx268 => W_true rfl hb270 ?_) (fun hb270 hx268 => W_false rfl hb270 ?_)
          · refine guardO_e hx268 (fun hg271 hx268 => ?_)
            refine guardO_e hx268 (fun hg272 hx268 => ?_)
            refine guardO_e hx268 (fun hg273 hx268 => ?_)
            refine W_cut (Q' := fun (e : Exit) (s : St) => e = .normal ∧ s = ⟨[(1, .one (.e (.sl 1 0 x2.length))), (5, .one (.e (.sl 2 0 ((x192.set (((x2.getD i193.toNat drcd).node).toNat) (⟨(x192.getD (((x2.getD i193.toNat drcd).node).toNat) dnod).parent, (x192.getD (((x2.getD i193.toNat drcd).node).toNat) dnod).name, (x2.getD i193.toNat drcd).value⟩ : Nod)).length)))), (6, I i193)], [.row .nod x1 false, .row .rcd x2 false, .row .nod (x192.set (((x2.getD i193.toNat drcd).node).toNat) (⟨(x192.getD (((x2.getD i193.toNat drcd).node).toNat) dnod).parent, (x192.getD (((x2.getD i193.toNat drcd).node).toNat) dnod).name, (x2.getD i193.toNat drcd).value⟩ : Nod)) true]⟩) ?_ ?_
            · refine W_draw [2] false (by kernel_rfl) (by kernel_rfl) ?_
              refine WD_takeK [0, 1, 2, 3, 4, 5, 6, 7, 8, 9, 10] [1, 5, 6, 42, 47, 52] [1, 5, 6, 42, 47, 52] (φ := ((0 ≤ i193 ∧ i193 < ((x2.length : Nat) : Int)) ∧ (0 ≤ i193 ∧ i193 < ((x2.length : Nat) : Int)) ∧ (True ∧ True ∧ ((0 ≤ i193 ∧ i193 < ((x2.length : Nat) : Int)) ∧ (0 ≤ i193 ∧ i193 < ((x2.length : Nat) : Int)) ∧ (True ∧ True ∧ True))))) (ls' := #[true, true, true, true, true, true, true, true, true, true, true, false, false, false]) (Ts' := [(1, .one (.e (.sl 1 0 x2.length))), (5, .one (.e (.sl 2 0 x192.length))), (6, I i193), (42, .one (.e (.sl 2 0 x192.length))), (47, I ((x2.getD i193.toNat drcd).node)), (52, I ((x2.getD i193.toNat drcd).value))]) (st' := ⟨[(1, .one (.e (.sl 1 0 x2.length))), (5, .one (.e (.sl 2 0 x192.length))), (6, I i193), (42, .one (.e (.sl 2 0 x192.length))), (47, I ((x2.getD i193.toNat drcd).node)), (52, I ((x2.getD i193.toNat drcd).value))], [.row .nod x1 false, .row .rcd x2 false, .row .nod x192 true]⟩) (n2 := 3) (by kernel_rfl) ⟨hg271, hg271, trivial, trivial, hg272, hg272, trivial, trivial, trivial⟩ rfl ?_
              refine WD_all [11] (n := 2) (by kernel_rfl) rfl ?_
              refine WM_op (φ := 0 ≤ (x2.getD i193.toNat drcd).node ∧ (x2.getD i193.toNat drcd).node < ((x192.length : Nat) : Int)) (v := .one (.e (.rp 2 (((x2.getD i193.toNat drcd).node).toNat) 0))) (H' := [.row .nod x1 false, .row .rcd x2 false, .row .nod x192 true]) rfl rfl (by kernel_rfl) hg273 rfl (And.intro rfl (And.intro rfl (trivial))) ?_
              refine WD_all [12] (n := 1) (by kernel_rfl) rfl ?_
              refine WM_op (φ := True) (v := .one (.e (.rp 2 (((x2.getD i193.toNat drcd).node).toNat) 2))) (H' := [.row .nod x1 false, .row .rcd x2 false, .row .nod x192 true]) rfl rfl (by kernel_rfl) trivial rfl (And.intro rfl (And.intro rfl (trivial))) ?_
              refine WD_all [13] (n := 0) (by kernel_rfl) rfl ?_
              refine WM_store (u := .one (.e (.rp 2 (((x2.getD i193.toNat drcd).node).toNat) 2))) (v := I ((x2.getD i193.toNat drcd).value)) (φ := True) (H' := [.row .nod x1 false, .row .rcd x2 false, .row .nod (x192.set (((x2.getD i193.toNat drcd).node).toNat) (⟨(x192.getD (((x2.getD i193.toNat drcd).node).toNat) dnod).parent, (x192.getD (((x2.getD i193.toNat drcd).node).toNat) dnod).name, (x2.getD i193.toNat drcd).value⟩ : Nod)) true]) rfl rfl rfl rfl rfl (by kernel_rfl) trivial rfl (And.intro rfl (And.intro rfl (trivial))) ?_
              exact WD_done [0, 1, 2] [1, 5, 6] (st' := ⟨[(1, .one (.e (.sl 1 0 x2.length))), (5, .one (.e (.sl 2 0 x192.length))), (6, I i193)], [.row .nod x1 false, .row .rcd x2 false, .row .nod (x192.set (((x2.getD i193.toNat drcd).node).toNat) (⟨(x192.getD (((x2.getD i193.toNat drcd).node).toNat) dnod).parent, (x192.getD (((x2.getD i193.toNat drcd).node).toNat) dnod).name, (x2.getD i193.toNat drcd).value⟩ : Nod)) true]⟩) (by kernel_rfl) (by kernel_rfl) (And.intro rfl (by simp only [List.length_set]))
            · rintro _ _ ⟨rfl, rfl⟩
              cases hx268
              exact And.intro rfl rfl
          · refine W_sub [0, 1, 2] [1, 5, 6] (st' := ⟨[(1, .one (.e (.sl 1 0 x2.length))), (5, .one (.e (.sl 2 0 x192.length))), (6, I i193)], [.row .nod x1 false, .row .rcd x2 false, .row .nod x192 true]⟩) (by kernel_rfl) ?_
            refine W_skip ?_
            cases hx268
            exact And.intro rfl rfl
        · rintro _ _ ⟨rfl, rfl⟩
          refine blockS_n ?_
          refine thenS_n ?_
          refine W_region ?_
          refine WO_step 3 [0, 1, 2] [1, 5, 6] (True ∧ True) ⟨[(1, .one (.e (.sl 1 0 x2.length))), (5, .one (.e (.sl 2 0 x268.length))), (6, I (w64 (i193 + 1)))], [.row .nod x1 false, .row .rcd x2 false, .row .nod x268 true]⟩ (by kernel_rfl) ⟨trivial, trivial⟩ ?_
          refine WO_nil rfl ?_
          refine thenS_n ?_
          exact ih _ _ h
    · refine W_sub [0, 1, 2] [5] (st' := ⟨[(5, .one (.e (.sl 2 0 x192.length)))], [.row .nod x1 false, .row .rcd x2 false, .row .nod x192 true]⟩) (by kernel_rfl) ?_
      refine W_exit ?_
      refine thenS_e ?_
      refine thenS_e ?_
      cases h
      exact And.intro rfl rfl

def spec_RedoLog (n : Nat) (x1 : List Nod) (x2 : List Rcd) : Option ((List Nod)) :=
 bindO (spec_validTree n x1) fun b137 =>
 bindO (iteO (!b137)
 (some true)
 (bindO (spec_validLog n x1 x2) fun b145 =>
 some (!b145))) fun b142 =>
 iteO b142
 (some ([] : List Nod))
 (guardO (0 = 0 ∧ ([] : List Nod).length = ([] : List Nod).length ∧ ([] : List Nod).length + ((x1.drop 0).take x1.length).length ≤ 1099511627776) <|
 bindO (spec_RedoLog_L1 x2 x1 n (([] : List Nod) ++ ((x1.drop 0).take x1.length)) 0) fun x232 =>
 some x232)

theorem spec_RedoLog_ok (n : Nat) (x1 : List Nod) (x2 : List Rcd) (x136 : List Nod) (h : spec_RedoLog n x1 x2 = some x136) : FOk EE 21 [.one (.e (.sl 0 0 x1.length)), .one (.e (.sl 1 0 x2.length))] [.row .nod x1 false, .row .rcd x2 false] (.one (.e (.sl 2 0 x136.length))) [.row .nod x1 false, .row .rcd x2 false, .row .nod x136 true] := by
  unfold spec_RedoLog at h
  refine FOk_of_W 56 2 Try.func21 rfl rfl (Nat.le_of_ble_eq_true rfl) rfl (fun w X θ => ?_)
  refine W_seq ?_
  refine W_region ?_
  refine WO_step 1 [0, 1] [0, 1] True ⟨[(0, .one (.e (.sl 0 0 x1.length))), (1, .one (.e (.sl 1 0 x2.length)))], [.row .nod x1 false, .row .rcd x2 false]⟩ (by kernel_rfl) trivial ?_
  refine WO_nil rfl ?_
  refine thenS_n ?_
  refine W_seq ?_
  refine W_seq ?_
  refine W_region ?_
  refine WO_step 1 [0, 1] [0, 1, 7] True ⟨[(0, .one (.e (.sl 0 0 x1.length))), (1, .one (.e (.sl 1 0 x2.length))), (7, .one (.e (.sl 0 0 x1.length)))], [.row .nod x1 false, .row .rcd x2 false]⟩ (by kernel_rfl) trivial ?_
  refine bindO_e h (fun b137 hc138 h => ?_)
  refine WO_call [.ro 0] Try.f42 rfl rfl rfl (by kernel_rfl) rfl rfl (by kernel_rfl) (spec_validTree_ok n x1 b137 hc138) (And.intro (And.intro rfl rfl) (trivial)) rfl ?_
  refine WO_step 2 [0, 1] [0, 1, 10] True ⟨[(0, .one (.e (.sl 0 0 x1.length))), (1, .one (.e (.sl 1 0 x2.length))), (10, B (!b137))], [.row .nod x1 false, .row .rcd x2 false]⟩ (by kernel_rfl) trivial ?_
  refine bindO_e h (fun b142 hv143 h => ?_)
  refine WO_thru ⟨[(0, .one (.e (.sl 0 0 x1.length))), (1, .one (.e (.sl 1 0 x2.length))), (15, B b142)], [.row .nod x1 false, .row .rcd x2 false]⟩ ?_ ?_
  · refine iteO_e hv143 (fun hb144 hv143 => WO_known 10 true rfl hb144 ?_) (fun hb144 hv143 => WO_known 10 false rfl hb144 ?_)
    · refine WO_step 5 [0, 1] [0, 1, 15] True ⟨[(0, .one (.e (.sl 0 0 x1.length))), (1, .one (.e (.sl 1 0 x2.length))), (15, B true)], [.row .nod x1 false, .row .rcd x2 false]⟩ (by kernel_rfl) trivial ?_
      cases hv143
      exact WO_nil rfl ⟨rfl, rfl⟩
    · refine WO_step 2 [0, 1] [0, 1, 10, 11, 12] True ⟨[(0, .one (.e (.sl 0 0 x1.length))), (1, .one (.e (.sl 1 0 x2.length))), (10, B false), (11, .one (.e (.sl 0 0 x1.length))), (12, .one (.e (.sl 1 0 x2.length)))], [.row .nod x1 false, .row .rcd x2 false]⟩ (by kernel_rfl) trivial ?_
      refine bindO_e hv143 (fun b145 hc146 hv143 => ?_)
      refine WO_call [.ro 0, .ro 1] Try.f43 rfl rfl rfl (by kernel_rfl) rfl rfl (by kernel_rfl) (spec_validLog_ok n x1 x2 b145 hc146) (And.intro (And.intro rfl rfl) (And.intro (And.intro rfl rfl) (trivial))) rfl ?_
      refine WO_step 2 [0, 1] [0, 1, 15] True ⟨[(0, .one (.e (.sl 0 0 x1.length))), (1, .one (.e (.sl 1 0 x2.length))), (15, B (!b145))], [.row .nod x1 false, .row .rcd x2 false]⟩ (by kernel_rfl) trivial ?_
      cases hv143
      exact WO_nil rfl ⟨rfl, rfl⟩
  · refine thenS_n ?_
    refine iteO_e h (fun hb148 h => W_true rfl hb148 ?_) (fun hb148 h => W_false rfl hb148 ?_)
    · refine W_seq ?_
      refine W_region ?_
      refine WO_step 1 [0, 1] [4] True ⟨[(4, .one (.e (.nsl)))], [.row .nod x1 false, .row .rcd x2 false]⟩ (by kernel_rfl) trivial ?_
      refine WO_nilrow 4 .nod rfl ?_
      refine WO_sub [0, 1, 2] [4] (st' := ⟨[(4, .one (.e (.sl 2 0 (([] : List Nod).length))))], [.row .nod x1 false, .row .rcd x2 false, .row .nod ([] : List Nod) true]⟩) (by kernel_rfl) ?_
      refine WO_nil rfl ?_
      refine thenS_n ?_
      refine W_ret ?_
      refine thenS_r ?_
      cases h
      exact ⟨[0, 1, 2], True, by kernel_rfl, trivial⟩
    · refine W_sub [0, 1] [0, 1] (st' := ⟨[(0, .one (.e (.sl 0 0 x1.length))), (1, .one (.e (.sl 1 0 x2.length)))], [.row .nod x1 false, .row .rcd x2 false]⟩) (by kernel_rfl) ?_
      refine W_skip ?_
      refine thenS_n ?_
      refine W_seq ?_
      refine W_region ?_
      refine guardO_e h (fun hg149 h => ?_)
      refine WO_step 4 [0, 1, 3] [1, 5] ((0 = 0 ∧ ([] : List Nod).length = ([] : List Nod).length ∧ ([] : List Nod).length + ((x1.drop 0).take x1.length).length ≤ 1099511627776) ∧ True) ⟨[(1, .one (.e (.sl 1 0 x2.length))), (5, .one (.e (.sl 2 0 ((([] : List Nod) ++ ((x1.drop 0).take x1.length)).length))))], [.row .nod x1 false, .row .rcd x2 false, .row .nod (([] : List Nod) ++ ((x1.drop 0).take x1.length)) true]⟩ (by kernel_rfl) ⟨hg149, trivial⟩ ?_
      refine WO_nil rfl ?_
      refine thenS_n ?_
      refine W_seq ?_
      refine W_seq ?_
      refine W_region ?_
      refine WO_step 1 [0, 1, 2] [1, 5, 6] True ⟨[(1, .one (.e (.sl 1 0 x2.length))), (5, .one (.e (.sl 2 0 ((([] : List Nod) ++ ((x1.drop 0).take x1.length)).length)))), (6, I 0)], [.row .nod x1 false, .row .rcd x2 false, .row .nod (([] : List Nod) ++ ((x1.drop 0).take x1.length)) true]⟩ (by kernel_rfl) trivial ?_
      refine WO_nil rfl ?_
      refine thenS_n ?_
      refine W_block ?_
      refine W_loop ?_
      refine bindO_e h (fun x232 hx232 h => ?_)
      refine WL_cut (spec_RedoLog_L1_ok w X θ x2 x1 x232 n (([] : List Nod) ++ ((x1.drop 0).take x1.length)) 0 hx232) ?_
      rintro _ _ ⟨rfl, rfl⟩
      refine blockS_y ?_
      refine thenS_n ?_
      refine W_seq ?_
      refine W_region ?_
      refine WO_step 2 [0, 1, 2] [4] True ⟨[(4, .one (.e (.sl 2 0 x232.length)))], [.row .nod x1 false, .row .rcd x2 false, .row .nod x232 true]⟩ (by kernel_rfl) trivial ?_
      refine WO_nil rfl ?_
      refine thenS_n ?_
      refine W_ret ?_
      cases h
      exact ⟨[0, 1, 2], True, by kernel_rfl, trivial⟩

end Go.Proofs.Ytdkmgkeaebcobaa

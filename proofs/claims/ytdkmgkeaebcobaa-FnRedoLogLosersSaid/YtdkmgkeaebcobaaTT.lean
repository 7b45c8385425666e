import Derived.Test.YtdkmgkeaebcobaaTT1
namespace Go.Proofs.Ytdkmgkeaebcobaa
open Go
set_option linter.unusedVariables false
/- laws.equalNodes -/
def laws_equalNodes_L1 (x1 : List Nod) (x2 : List Nod) : Nat → Int → Option ((Unit) ⊕ (Unit))
| 0, _ => none
| n + 1, i57 =>
 iteO (decide (i57 < ((x1.length : Nat) : Int)))
 (guardO (0 ≤ i57 ∧ i57 < ((x1.length : Nat) : Int)) <|
 guardO (0 ≤ i57 ∧ i57 < ((x2.length : Nat) : Int)) <|
 iteO (!((decide (((x1.getD i57.toNat dnod).parent) = ((x2.getD i57.toNat dnod).parent))) && ((decide (((x1.getD i57.toNat dnod).name) = ((x2.getD i57.toNat dnod).name))) && ((decide (((x1.getD i57.toNat dnod).value) = ((x2.getD i57.toNat dnod).value))) && true))))
 (some (.inl ()))
 (laws_equalNodes_L1 x1 x2 n (w64 (i57 + 1))))
 (some (.inr ()))

theorem laws_equalNodes_L1_ok (w : World) (X : Nat → Prop) (θ : List Loc) (x1 : List Nod) (x2 : List Nod) (v : (Unit) ⊕ (Unit)) : ∀ (n : Nat) (i57 : Int), laws_equalNodes_L1 x1 x2 n i57 = some v → WL EE ⟨w, X, θ, 26, 2⟩ (subC [1, 1, 0, 1, 4, 4] (bodyC Try.f20)) (fun (e : Exit) (s : St) => (match v with | (.inl _) => e = .ret ∧ s = ⟨[(4, B false)], [.row .nod x1 false, .row .nod x2 false]⟩ | (.inr _) => e = .exit 0 ∧ s = ⟨[], [.row .nod x1 false, .row .nod x2 false]⟩ : Prop)) ⟨[(0, .one (.e (.sl 0 0 x1.length))), (1, .one (.e (.sl 1 0 x2.length))), (5, I i57)], [.row .nod x1 false, .row .nod x2 false]⟩ := by
  intro n
  induction n with
  | zero => intro _ h; exact none_e h
  | succ n ih =>
    intro i57 h
    rw [laws_equalNodes_L1] at h
    refine WL_round ?_
    refine W_seq ?_
    refine W_seq ?_
    refine W_region ?_
    refine WO_step 4 [0, 1] [0, 1, 5, 14] (True ∧ (True ∧ True)) ⟨[(0, .one (.e (.sl 0 0 x1.length))), (1, .one (.e (.sl 1 0 x2.length))), (5, I i57), (14, B (decide (i57 < ((x1.length : Nat) : Int))))], [.row .nod x1 false, .row .nod x2 false]⟩ (by kernel_rfl) ⟨trivial, trivial, trivial⟩ ?_
    refine WO_nil rfl ?_
    refine thenS_n ?_
    refine iteO_e h (fun hb71 h => W_true rfl hb71 ?_) (fun hb71 h => W_false rfl hb71 ?_)
    · refine W_sub [0, 1] [0, 1, 5] (st' := ⟨[(0, .one (.e (.sl 0 0 x1.length))), (1, .one (.e (.sl 1 0 x2.length))), (5, I i57)], [.row .nod x1 false, .row .nod x2 false]⟩) (by kernel_rfl) ?_
      refine W_skip ?_
      refine thenS_n ?_
      refine W_seq ?_
      refine W_block ?_
      refine W_seq ?_
      refine guardO_e h (fun hg76 h => ?_)
      refine guardO_e h (fun hg77 h => ?_)
      refine W_cut (Q' := fun (e : Exit) (s : St) => e = .normal ∧ s = ⟨[(0, .one (.e (.sl 0 0 x1.length))), (1, .one (.e (.sl 1 0 x2.length))), (5, I i57), (25, B (!((decide (((x1.getD i57.toNat dnod).parent) = ((x2.getD i57.toNat dnod).parent))) && ((decide (((x1.getD i57.toNat dnod).name) = ((x2.getD i57.toNat dnod).name))) && ((decide (((x1.getD i57.toNat dnod).value) = ((x2.getD i57.toNat dnod).value))) && true)))))], [.row .nod x1 false, .row .nod x2 false]⟩) ?_ ?_
      · refine W_draw [] true (by kernel_rfl) (by kernel_rfl) ?_
        refine WD_takeK [0, 1, 2, 3, 4, 5, 6, 7, 8] [0, 1, 5, 25] [0, 1, 5, 25] (φ := ((0 ≤ i57 ∧ i57 < ((x1.length : Nat) : Int)) ∧ (0 ≤ i57 ∧ i57 < ((x1.length : Nat) : Int)) ∧ (True ∧ True ∧ ((0 ≤ i57 ∧ i57 < ((x2.length : Nat) : Int)) ∧ (0 ≤ i57 ∧ i57 < ((x2.length : Nat) : Int)) ∧ (True ∧ True ∧ (True ∧ True ∧ True)))))) (ls' := #[true, true, true, true, true, true, true, true, true]) (Ts' := [(0, .one (.e (.sl 0 0 x1.length))), (1, .one (.e (.sl 1 0 x2.length))), (5, I i57), (25, B (!((decide (((x1.getD i57.toNat dnod).parent) = ((x2.getD i57.toNat dnod).parent))) && ((decide (((x1.getD i57.toNat dnod).name) = ((x2.getD i57.toNat dnod).name))) && ((decide (((x1.getD i57.toNat dnod).value) = ((x2.getD i57.toNat dnod).value))) && true)))))]) (st' := ⟨[(0, .one (.e (.sl 0 0 x1.length))), (1, .one (.e (.sl 1 0 x2.length))), (5, I i57), (25, B (!((decide (((x1.getD i57.toNat dnod).parent) = ((x2.getD i57.toNat dnod).parent))) && ((decide (((x1.getD i57.toNat dnod).name) = ((x2.getD i57.toNat dnod).name))) && ((decide (((x1.getD i57.toNat dnod).value) = ((x2.getD i57.toNat dnod).value))) && true)))))], [.row .nod x1 false, .row .nod x2 false]⟩) (n2 := 0) (by kernel_rfl) ⟨hg76, hg76, trivial, trivial, hg77, hg77, trivial, trivial, trivial, trivial, trivial⟩ rfl ?_
        exact WD_done [0, 1] [0, 1, 5, 25] (st' := ⟨[(0, .one (.e (.sl 0 0 x1.length))), (1, .one (.e (.sl 1 0 x2.length))), (5, I i57), (25, B (!((decide (((x1.getD i57.toNat dnod).parent) = ((x2.getD i57.toNat dnod).parent))) && ((decide (((x1.getD i57.toNat dnod).name) = ((x2.getD i57.toNat dnod).name))) && ((decide (((x1.getD i57.toNat dnod).value) = ((x2.getD i57.toNat dnod).value))) && true)))))], [.row .nod x1 false, .row .nod x2 false]⟩) (by kernel_rfl) (by kernel_rfl) (And.intro rfl rfl)
      · rintro _ _ ⟨rfl, rfl⟩
        refine thenS_n ?_
        refine iteO_e h (fun hb79 h => W_true rfl hb79 ?_) (fun hb79 h => W_false rfl hb79 ?_)
        · refine W_seq ?_
          refine W_region ?_
          refine WO_step 1 [0, 1] [4] True ⟨[(4, B false)], [.row .nod x1 false, .row .nod x2 false]⟩ (by kernel_rfl) trivial ?_
          refine WO_nil rfl ?_
          refine thenS_n ?_
          refine W_ret ?_
          refine blockS_r ?_
          refine thenS_r ?_
          refine thenS_r ?_
          cases h
          exact And.intro rfl rfl
        · refine W_sub [0, 1] [0, 1, 5] (st' := ⟨[(0, .one (.e (.sl 0 0 x1.length))), (1, .one (.e (.sl 1 0 x2.length))), (5, I i57)], [.row .nod x1 false, .row .nod x2 false]⟩) (by kernel_rfl) ?_
          refine W_skip ?_
          refine blockS_n ?_
          refine thenS_n ?_
          refine W_region ?_
          refine WO_step 3 [0, 1] [0, 1, 5] (True ∧ True) ⟨[(0, .one (.e (.sl 0 0 x1.length))), (1, .one (.e (.sl 1 0 x2.length))), (5, I (w64 (i57 + 1)))], [.row .nod x1 false, .row .nod x2 false]⟩ (by kernel_rfl) ⟨trivial, trivial⟩ ?_
          refine WO_nil rfl ?_
          refine thenS_n ?_
          exact ih _ h
    · refine W_sub [0, 1] [] (st' := ⟨[], [.row .nod x1 false, .row .nod x2 false]⟩) (by kernel_rfl) ?_
      refine W_exit ?_
      refine thenS_e ?_
      refine thenS_e ?_
      cases h
      exact And.intro rfl rfl

def laws_equalNodes (n : Nat) (x1 : List Nod) (x2 : List Nod) : Option (Bool) :=
 iteO (!decide (((x1.length : Nat) : Int) = ((x2.length : Nat) : Int)))
 (some false)
 (bindO (laws_equalNodes_L1 x1 x2 n 0) fun v80 =>
 match v80 with
 | (.inl _) => (some false)
 | (.inr _) => (some true)
)

theorem laws_equalNodes_ok (n : Nat) (x1 : List Nod) (x2 : List Nod) (b41 : Bool) (h : laws_equalNodes n x1 x2 = some b41) : FOk EE 20 [.one (.e (.sl 0 0 x1.length)), .one (.e (.sl 1 0 x2.length))] [.row .nod x1 false, .row .nod x2 false] (B b41) [.row .nod x1 false, .row .nod x2 false] := by
  unfold laws_equalNodes at h
  refine FOk_of_W 26 2 Try.func20 rfl rfl (Nat.le_of_ble_eq_true rfl) rfl (fun w X θ => ?_)
  refine W_seq ?_
  refine W_region ?_
  refine WO_step 1 [0, 1] [0, 1] True ⟨[(0, .one (.e (.sl 0 0 x1.length))), (1, .one (.e (.sl 1 0 x2.length)))], [.row .nod x1 false, .row .nod x2 false]⟩ (by kernel_rfl) trivial ?_
  refine WO_nil rfl ?_
  refine thenS_n ?_
  refine W_seq ?_
  refine W_seq ?_
  refine W_region ?_
  refine WO_step 5 [0, 1] [0, 1, 10] (True ∧ (True ∧ (True ∧ True))) ⟨[(0, .one (.e (.sl 0 0 x1.length))), (1, .one (.e (.sl 1 0 x2.length))), (10, B (!decide (((x1.length : Nat) : Int) = ((x2.length : Nat) : Int))))], [.row .nod x1 false, .row .nod x2 false]⟩ (by kernel_rfl) ⟨trivial, trivial, trivial, trivial⟩ ?_
  refine WO_nil rfl ?_
  refine thenS_n ?_
  refine iteO_e h (fun hb43 h => W_true rfl hb43 ?_) (fun hb43 h => W_false rfl hb43 ?_)
  · refine W_seq ?_
    refine W_region ?_
    refine WO_step 1 [0, 1] [4] True ⟨[(4, B false)], [.row .nod x1 false, .row .nod x2 false]⟩ (by kernel_rfl) trivial ?_
    refine WO_nil rfl ?_
    refine thenS_n ?_
    refine W_ret ?_
    refine thenS_r ?_
    cases h
    exact ⟨[0, 1], True, by kernel_rfl, trivial⟩
  · refine W_sub [0, 1] [0, 1] (st' := ⟨[(0, .one (.e (.sl 0 0 x1.length))), (1, .one (.e (.sl 1 0 x2.length)))], [.row .nod x1 false, .row .nod x2 false]⟩) (by kernel_rfl) ?_
    refine W_skip ?_
    refine thenS_n ?_
    refine W_seq ?_
    refine W_seq ?_
    refine W_region ?_
    refine WO_step 1 [0, 1] [0, 1, 5] True ⟨[(0, .one (.e (.sl 0 0 x1.length))), (1, .one (.e (.sl 1 0 x2.length))), (5, I 0)], [.row .nod x1 false, .row .nod x2 false]⟩ (by kernel_rfl) trivial ?_
    refine WO_nil rfl ?_
    refine thenS_n ?_
    refine W_block ?_
    refine W_loop ?_
    refine bindO_e h (fun v80 hv80 h => ?_)
    refine WL_cut (laws_equalNodes_L1_ok w X θ x1 x2 v80 n 0 hv80) ?_
    rcases v80 with _ | _
    · rintro _ _ ⟨rfl, rfl⟩
      refine blockS_r ?_
      refine thenS_r ?_
      cases h
      exact ⟨[0, 1], True, by kernel_rfl, trivial⟩
    · rintro _ _ ⟨rfl, rfl⟩
      refine blockS_y ?_
      refine thenS_n ?_
      refine W_seq ?_
      refine W_region ?_
      refine WO_step 1 [0, 1] [4] True ⟨[(4, B true)], [.row .nod x1 false, .row .nod x2 false]⟩ (by kernel_rfl) trivial ?_
      refine WO_nil rfl ?_
      refine thenS_n ?_
      refine W_ret ?_
      cases h
      exact ⟨[0, 1], True, by kernel_rfl, trivial⟩

/- impl.marked -/
def impl_marked_L1 (x1 : List Bool) : Nat → (List Int) → Int → Option ((List Int))
| 0, _, _ => none
| n + 1, x71, i72 =>
 iteO (decide (i72 < 4))
 (guardO (0 ≤ i72 ∧ i72 < (4 : Int) ∧ i72.toNat < ((x1.drop 0).take 4).length) <|
 bindO (iteO (((x1.drop 0).take 4).getD i72.toNat false)
 (guardO (0 = 0 ∧ x71.length = x71.length ∧ x71.length + (([i72].drop 0).take ([i72].length)).length ≤ 1099511627776) <|
 some (x71 ++ (([i72].drop 0).take ([i72].length))))
 (some x71)) fun x99 =>
 impl_marked_L1 x1 n x99 (w64 (i72 + 1)))
 (some x71)

theorem impl_marked_L1_ok (w : World) (X : Nat → Prop) (θ : List Loc) (x1 : List Bool) (x87 : (List Int)) : ∀ (n : Nat) (x71 : List Int) (i72 : Int), impl_marked_L1 x1 n x71 i72 = some x87 → WL EE ⟨w, X, θ, 18, 0⟩ (subC [1, 1, 0, 1, 4, 4] (bodyC Try.f41)) (fun (e : Exit) (s : St) => e = .exit 0 ∧ s = ⟨[(3, .one (.e (.sl 0 0 x87.length)))], [.row .int x87 true]⟩) ⟨[(3, .one (.e (.sl 0 0 x71.length))), (6, .one (.arr .bool ((x1.drop 0).take 4))), (7, I i72)], [.row .int x71 true]⟩ := by
  intro n
  induction n with
  | zero => intro _ _ h; exact none_e h
  | succ n ih =>
    intro x71 i72 h
    rw [impl_marked_L1] at h
    refine WL_round ?_
    refine W_seq ?_
    refine W_region ?_
    refine WO_step 1 [0] [3, 6, 7, 8] (True ∧ True) ⟨[(3, .one (.e (.sl 0 0 x71.length))), (6, .one (.arr .bool ((x1.drop 0).take 4))), (7, I i72), (8, B (decide (i72 < 4)))], [.row .int x71 true]⟩ (by kernel_rfl) ⟨trivial, trivial⟩ ?_
    refine WO_nil rfl ?_
    refine thenS_n ?_
    refine W_seq ?_
    refine iteO_e h (fun hb90 h => W_true rfl hb90 ?_) (fun hb90 h => W_false rfl hb90 ?_)
    · refine W_sub [0] [3, 6, 7] (st' := ⟨[(3, .one (.e (.sl 0 0 x71.length))), (6, .one (.arr .bool ((x1.drop 0).take 4))), (7, I i72)], [.row .int x71 true]⟩) (by kernel_rfl) ?_
      refine W_skip ?_
      refine thenS_n ?_
      refine W_seq ?_
      refine W_block ?_
      refine W_seq ?_
      refine W_region ?_
      refine guardO_e h (fun hg96 h => ?_)
      refine WO_step 4 [0] [3, 4, 5, 6, 7] ((0 ≤ i72 ∧ i72 < (4 : Int) ∧ i72.toNat < ((x1.drop 0).take 4).length) ∧ True) ⟨[(3, .one (.e (.sl 0 0 x71.length))), (4, I i72), (5, B (((x1.drop 0).take 4).getD i72.toNat false)), (6, .one (.arr .bool ((x1.drop 0).take 4))), (7, I i72)], [.row .int x71 true]⟩ (by kernel_rfl) ⟨hg96, trivial⟩ ?_
      refine WO_nil rfl ?_
      refine thenS_n ?_
      refine W_seq ?_
      refine W_region ?_
      refine WO_step 1 [0] [3, 4, 6, 7, 11] True ⟨[(3, .one (.e (.sl 0 0 x71.length))), (4, I i72), (6, .one (.arr .bool ((x1.drop 0).take 4))), (7, I i72), (11, B (((x1.drop 0).take 4).getD i72.toNat false))], [.row .int x71 true]⟩ (by kernel_rfl) trivial ?_
      refine WO_nil rfl ?_
      refine thenS_n ?_
      refine bindO_e h (fun x99 hx99 h => ?_)
      refine W_cut (Q' := fun (e : Exit) (s : St) => e = .normal ∧ s = ⟨[(3, .one (.e (.sl 0 0 x99.length))), (6, .one (.arr .bool ((x1.drop 0).take 4))), (7, I i72)], [.row .int x99 true]⟩) ?_ ?_
      · refine iteO_e hx99 (fun hb101 hx99 => W_true rfl hb101 ?_) (fun hb101 hx99 => W_false rfl hb101 ?_)
        · refine W_region ?_
          refine guardO_e hx99 (fun hg102 hx99 => ?_)
          refine WO_step 5 [2] [3, 6, 7] ((0 = 0 ∧ x71.length = x71.length ∧ x71.length + (([i72].drop 0).take ([i72].length)).length ≤ 1099511627776) ∧ True) ⟨[(3, .one (.e (.sl 0 0 ((x71 ++ (([i72].drop 0).take ([i72].length))).length)))), (6, .one (.arr .bool ((x1.drop 0).take 4))), (7, I i72)], [.row .int (x71 ++ (([i72].drop 0).take ([i72].length))) true]⟩ (by kernel_rfl) ⟨hg102, trivial⟩ ?_
          refine WO_nil rfl ?_
          cases hx99
          exact And.intro rfl rfl
        · refine W_sub [0] [3, 6, 7] (st' := ⟨[(3, .one (.e (.sl 0 0 x71.length))), (6, .one (.arr .bool ((x1.drop 0).take 4))), (7, I i72)], [.row .int x71 true]⟩) (by kernel_rfl) ?_
          refine W_skip ?_
          cases hx99
          exact And.intro rfl rfl
      · rintro _ _ ⟨rfl, rfl⟩
        refine blockS_n ?_
        refine thenS_n ?_
        refine W_region ?_
        refine WO_step 2 [0] [3, 6, 7] (True ∧ True) ⟨[(3, .one (.e (.sl 0 0 x99.length))), (6, .one (.arr .bool ((x1.drop 0).take 4))), (7, I (w64 (i72 + 1)))], [.row .int x99 true]⟩ (by kernel_rfl) ⟨trivial, trivial⟩ ?_
        refine WO_nil rfl ?_
        refine thenS_n ?_
        exact ih _ _ h
    · refine W_sub [0] [3] (st' := ⟨[(3, .one (.e (.sl 0 0 x71.length)))], [.row .int x71 true]⟩) (by kernel_rfl) ?_
      refine W_exit ?_
      refine thenS_e ?_
      refine thenS_e ?_
      cases h
      exact And.intro rfl rfl

def impl_marked (n : Nat) (x1 : List Bool) : Option ((List Int)) :=
 guardO (0 < x1.length ∧ x1.length ≤ 1099511627776) <|
 guardO (0 + 4 ≤ x1.length) <|
 bindO (impl_marked_L1 x1 n ([] : List Int) 0) fun x87 =>
 some x87

theorem impl_marked_ok (n : Nat) (x1 : List Bool) (x50 : List Int) (h : impl_marked n x1 = some x50) : FOk EE 41 [.one (.arr .bool x1)] [] (.one (.e (.sl 0 0 x50.length))) [.row .int x50 true] := by
  unfold impl_marked at h
  refine FOk_of_W 18 0 Try.func41 rfl rfl (Nat.le_of_ble_eq_true rfl) rfl (fun w X θ => ?_)
  refine W_seq ?_
  refine W_region ?_
  refine guardO_e h (fun hg51 h => ?_)
  refine WO_step 2 [0] [1] ((0 < x1.length ∧ x1.length ≤ 1099511627776) ∧ True) ⟨[(1, .one (.e (.rp 0 0 0)))], [.row .bool x1 true]⟩ (by kernel_rfl) ⟨hg51, trivial⟩ ?_
  refine WO_nil rfl ?_
  refine thenS_n ?_
  refine W_seq ?_
  refine W_region ?_
  refine WO_step 1 [0] [1, 3] True ⟨[(1, .one (.e (.rp 0 0 0))), (3, .one (.e (.nsl)))], [.row .bool x1 true]⟩ (by kernel_rfl) trivial ?_
  refine WO_nilrow 3 .int rfl ?_
  refine WO_sub [0, 1] [1, 3] (st' := ⟨[(1, .one (.e (.rp 0 0 0))), (3, .one (.e (.sl 1 0 (([] : List Int).length))))], [.row .bool x1 true, .row .int ([] : List Int) true]⟩) (by kernel_rfl) ?_
  refine WO_nil rfl ?_
  refine thenS_n ?_
  refine W_seq ?_
  refine W_seq ?_
  refine W_region ?_
  refine guardO_e h (fun hg52 h => ?_)
  refine WO_step 2 [1] [3, 6, 7] ((0 + 4 ≤ x1.length) ∧ True) ⟨[(3, .one (.e (.sl 0 0 (([] : List Int).length)))), (6, .one (.arr .bool ((x1.drop 0).take 4))), (7, I 0)], [.row .int ([] : List Int) true]⟩ (by kernel_rfl) ⟨hg52, trivial⟩ ?_
  refine WO_nil rfl ?_
  refine thenS_n ?_
  refine W_block ?_
  refine W_loop ?_
  refine bindO_e h (fun x87 hx87 h => ?_)
  refine WL_cut (impl_marked_L1_ok w X θ x1 x87 n ([] : List Int) 0 hx87) ?_
  rintro _ _ ⟨rfl, rfl⟩
  refine blockS_y ?_
  refine thenS_n ?_
  refine W_seq ?_
  refine W_region ?_
  refine WO_step 2 [0] [2] True ⟨[(2, .one (.e (.sl 0 0 x87.length)))], [.row .int x87 true]⟩ (by kernel_rfl) trivial ?_
  refine WO_nil rfl ?_
  refine thenS_n ?_
  refine W_ret ?_
  cases h
  exact ⟨[0], True, by kernel_rfl, trivial⟩

/- impl.LosersOf -/
def impl_LosersOf_L1 (x2 : List Rcd) (x1 : List Nod) : Nat → (List Bool) → Int → Option ((List Bool))
| 0, _, _ => none
| n + 1, x145, i146 =>
 iteO (decide (i146 < ((x2.length : Nat) : Int)))
 (guardO (0 ≤ i146 ∧ i146 < ((x2.length : Nat) : Int)) <|
 bindO (iteO (!(x2.getD i146.toNat drcd).fin)
 (bindO (impl_isDone n x2 i146) fun b201 =>
 some (!b201))
 (some false)) fun b198 =>
 bindO (iteO b198
 (guardO (0 ≤ (x2.getD i146.toNat drcd).who ∧ (x2.getD i146.toNat drcd).who < (4 : Int) ∧ (((x2.getD i146.toNat drcd).who).toNat * 1) < x145.length) <|
 some (x145.set (((x2.getD i146.toNat drcd).who).toNat * 1) true))
 (some x145)) fun x205 =>
 impl_LosersOf_L1 x2 x1 n x205 (w64 (i146 + 1)))
 (some x145)

theorem impl_LosersOf_L1_ok (w : World) (X : Nat → Prop) (θ : List Loc) (x2 : List Rcd) (x1 : List Nod) (x177 : (List Bool)) : ∀ (n : Nat) (x145 : List Bool) (i146 : Int), impl_LosersOf_L1 x2 x1 n x145 i146 = some x177 → WL EE ⟨w, X, θ, 34, 2⟩ (subC [1, 1, 1, 0, 1, 4, 4] (bodyC Try.f13)) (fun (e : Exit) (s : St) => e = .exit 0 ∧ s = ⟨[(5, .one (.e (.rp 2 0 0)))], [.row .nod x1 false, .row .rcd x2 false, .row .bool x177 true]⟩) ⟨[(1, .one (.e (.sl 1 0 x2.length))), (5, .one (.e (.rp 2 0 0))), (12, .one (.e (.sl 1 0 x2.length))), (13, I ((x2.length : Nat) : Int)), (14, I i146)], [.row .nod x1 false, .row .rcd x2 false, .row .bool x145 true]⟩ := by
  intro n
  induction n with
  | zero => intro _ _ h; exact none_e h
  | succ n ih =>
    intro x145 i146 h
    rw [impl_LosersOf_L1] at h
    refine WL_round ?_
    refine W_seq ?_
    refine W_region ?_
    refine WO_step 1 [0, 1, 2] [1, 5, 12, 13, 14, 15] (True ∧ True) ⟨[(1, .one (.e (.sl 1 0 x2.length))), (5, .one (.e (.rp 2 0 0))), (12, .one (.e (.sl 1 0 x2.length))), (13, I ((x2.length : Nat) : Int)), (14, I i146), (15, B (decide (i146 < ((x2.length : Nat) : Int))))], [.row .nod x1 false, .row .rcd x2 false, .row .bool x145 true]⟩ (by kernel_rfl) ⟨trivial, trivial⟩ ?_
    refine WO_nil rfl ?_
    refine thenS_n ?_
    refine W_seq ?_
    refine iteO_e h (fun hb180 h => W_true rfl hb180 ?_) (fun hb180 h => W_false rfl hb180 ?_)
    · refine W_sub [0, 1, 2] [1, 5, 12, 13, 14] (st' := ⟨[(1, .one (.e (.sl 1 0 x2.length))), (5, .one (.e (.rp 2 0 0))), (12, .one (.e (.sl 1 0 x2.length))), (13, I ((x2.length : Nat) : Int)), (14, I i146)], [.row .nod x1 false, .row .rcd x2 false, .row .bool x145 true]⟩) (by kernel_rfl) ?_
      refine W_skip ?_
      refine thenS_n ?_
      refine W_seq ?_
      refine W_block ?_
      refine W_seq ?_
      refine W_region ?_
      refine guardO_e h (fun hg194 h => ?_)
      refine WO_step 6 [0, 1, 2, 3] [1, 5, 6, 7, 12, 13, 14] ((0 ≤ i146 ∧ i146 < ((x2.length : Nat) : Int)) ∧ (True ∧ (True ∧ (True ∧ True)))) ⟨[(1, .one (.e (.sl 1 0 x2.length))), (5, .one (.e (.rp 2 0 0))), (6, I i146), (7, .one (.e (.p 3 0))), (12, .one (.e (.sl 1 0 x2.length))), (13, I ((x2.length : Nat) : Int)), (14, I i146)], [.row .nod x1 false, .row .rcd x2 false, .row .bool x145 true, .cells [cI ((x2.getD i146.toNat drcd).who), cI ((x2.getD i146.toNat drcd).node), cI ((x2.getD i146.toNat drcd).value), cB ((x2.getD i146.toNat drcd).fin)]]⟩ (by kernel_rfl) ⟨hg194, trivial, trivial, trivial, trivial⟩ ?_
      refine WO_nil rfl ?_
      refine thenS_n ?_
      refine W_seq ?_
      refine W_region ?_
      refine WO_step 4 [0, 1, 2, 3] [1, 5, 6, 7, 12, 13, 14, 22] (True ∧ True) ⟨[(1, .one (.e (.sl 1 0 x2.length))), (5, .one (.e (.rp 2 0 0))), (6, I i146), (7, .one (.e (.p 3 0))), (12, .one (.e (.sl 1 0 x2.length))), (13, I ((x2.length : Nat) : Int)), (14, I i146), (22, B (!(x2.getD i146.toNat drcd).fin))], [.row .nod x1 false, .row .rcd x2 false, .row .bool x145 true, .cells [cI ((x2.getD i146.toNat drcd).who), cI ((x2.getD i146.toNat drcd).node), cI ((x2.getD i146.toNat drcd).value), cB ((x2.getD i146.toNat drcd).fin)]]⟩ (by kernel_rfl) ⟨trivial, trivial⟩ ?_
      refine bindO_e h (fun b198 hv199 h => ?_)
      refine WO_thru ⟨[(1, .one (.e (.sl 1 0 x2.length))), (5, .one (.e (.rp 2 0 0))), (7, .one (.e (.p 3 0))), (12, .one (.e (.sl 1 0 x2.length))), (13, I ((x2.length : Nat) : Int)), (14, I i146), (27, B b198)], [.row .nod x1 false, .row .rcd x2 false, .row .bool x145 true, .cells [cI ((x2.getD i146.toNat drcd).who), cI ((x2.getD i146.toNat drcd).node), cI ((x2.getD i146.toNat drcd).value), cB ((x2.getD i146.toNat drcd).fin)]]⟩ ?_ ?_
      · refine iteO_e hv199 (fun hb200 hv199 => WO_known 22 true rfl hb200 ?_) (fun hb200 hv199 => WO_known 22 false rfl hb200 ?_)
        · refine WO_step 2 [0, 1, 2, 3] [1, 5, 7, 12, 13, 14, 22, 23, 24] True ⟨[(1, .one (.e (.sl 1 0 x2.length))), (5, .one (.e (.rp 2 0 0))), (7, .one (.e (.p 3 0))), (12, .one (.e (.sl 1 0 x2.length))), (13, I ((x2.length : Nat) : Int)), (14, I i146), (22, B true), (23, .one (.e (.sl 1 0 x2.length))), (24, I i146)], [.row .nod x1 false, .row .rcd x2 false, .row .bool x145 true, .cells [cI ((x2.getD i146.toNat drcd).who), cI ((x2.getD i146.toNat drcd).node), cI ((x2.getD i146.toNat drcd).value), cB ((x2.getD i146.toNat drcd).fin)]]⟩ (by kernel_rfl) trivial ?_
          refine bindO_e hv199 (fun b201 hc202 hv199 => ?_)
          refine WO_call [.ro 1] Try.f40 rfl rfl rfl (by kernel_rfl) rfl rfl (by kernel_rfl) (impl_isDone_ok n x2 i146 b201 hc202) (And.intro (And.intro rfl rfl) (trivial)) rfl ?_
          refine WO_step 2 [0, 1, 2, 3] [1, 5, 7, 12, 13, 14, 27] True ⟨[(1, .one (.e (.sl 1 0 x2.length))), (5, .one (.e (.rp 2 0 0))), (7, .one (.e (.p 3 0))), (12, .one (.e (.sl 1 0 x2.length))), (13, I ((x2.length : Nat) : Int)), (14, I i146), (27, B (!b201))], [.row .nod x1 false, .row .rcd x2 false, .row .bool x145 true, .cells [cI ((x2.getD i146.toNat drcd).who), cI ((x2.getD i146.toNat drcd).node), cI ((x2.getD i146.toNat drcd).value), cB ((x2.getD i146.toNat drcd).fin)]]⟩ (by kernel_rfl) trivial ?_
          cases hv199
          exact WO_nil rfl ⟨rfl, rfl⟩
        · refine WO_step 5 [0, 1, 2, 3] [1, 5, 7, 12, 13, 14, 27] True ⟨[(1, .one (.e (.sl 1 0 x2.length))), (5, .one (.e (.rp 2 0 0))), (7, .one (.e (.p 3 0))), (12, .one (.e (.sl 1 0 x2.length))), (13, I ((x2.length : Nat) : Int)), (14, I i146), (27, B false)], [.row .nod x1 false, .row .rcd x2 false, .row .bool x145 true, .cells [cI ((x2.getD i146.toNat drcd).who), cI ((x2.getD i146.toNat drcd).node), cI ((x2.getD i146.toNat drcd).value), cB ((x2.getD i146.toNat drcd).fin)]]⟩ (by kernel_rfl) trivial ?_
          cases hv199
          exact WO_nil rfl ⟨rfl, rfl⟩
      · refine thenS_n ?_
        refine bindO_e h (fun x205 hx205 h => ?_)
        refine W_cut (Q' := fun (e : Exit) (s : St) => e = .normal ∧ s = ⟨[(1, .one (.e (.sl 1 0 x2.length))), (5, .one (.e (.rp 2 0 0))), (12, .one (.e (.sl 1 0 x2.length))), (13, I ((x2.length : Nat) : Int)), (14, I i146)], [.row .nod x1 false, .row .rcd x2 false, .row .bool x205 true]⟩) ?_ ?_
        · refine iteO_e hx205 (fun hb207 hx205 => W_true rfl hb207 ?_) (fun hb207 hx205 => W_false rfl hb207 ?_)
          · refine W_region ?_
            refine guardO_e hx205 (fun hg208 hx205 => ?_)
            refine WO_step 4 [0, 1, 2] [1, 5, 12, 13, 14] (True ∧ ((0 ≤ (x2.getD i146.toNat drcd).who ∧ (x2.getD i146.toNat drcd).who < (4 : Int) ∧ (((x2.getD i146.toNat drcd).who).toNat * 1) < x145.length) ∧ (True ∧ True))) ⟨[(1, .one (.e (.sl 1 0 x2.length))), (5, .one (.e (.rp 2 0 0))), (12, .one (.e (.sl 1 0 x2.length))), (13, I ((x2.length : Nat) : Int)), (14, I i146)], [.row .nod x1 false, .row .rcd x2 false, .row .bool (x145.set (((x2.getD i146.toNat drcd).who).toNat * 1) true) true]⟩ (by kernel_rfl) ⟨trivial, hg208, trivial, trivial⟩ ?_
            refine WO_nil rfl ?_
            cases hx205
            exact And.intro rfl rfl
          · refine W_sub [0, 1, 2] [1, 5, 12, 13, 14] (st' := ⟨[(1, .one (.e (.sl 1 0 x2.length))), (5, .one (.e (.rp 2 0 0))), (12, .one (.e (.sl 1 0 x2.length))), (13, I ((x2.length : Nat) : Int)), (14, I i146)], [.row .nod x1 false, .row .rcd x2 false, .row .bool x145 true]⟩) (by kernel_rfl) ?_
            refine W_skip ?_
            cases hx205
            exact And.intro rfl rfl
        · rintro _ _ ⟨rfl, rfl⟩
          refine blockS_n ?_
          refine thenS_n ?_
          refine W_region ?_
          refine WO_step 2 [0, 1, 2] [1, 5, 12, 13, 14] (True ∧ True) ⟨[(1, .one (.e (.sl 1 0 x2.length))), (5, .one (.e (.rp 2 0 0))), (12, .one (.e (.sl 1 0 x2.length))), (13, I ((x2.length : Nat) : Int)), (14, I (w64 (i146 + 1)))], [.row .nod x1 false, .row .rcd x2 false, .row .bool x205 true]⟩ (by kernel_rfl) ⟨trivial, trivial⟩ ?_
          refine WO_nil rfl ?_
          refine thenS_n ?_
          exact ih _ _ h
    · refine W_sub [0, 1, 2] [5] (st' := ⟨[(5, .one (.e (.rp 2 0 0)))], [.row .nod x1 false, .row .rcd x2 false, .row .bool x145 true]⟩) (by kernel_rfl) ?_
      refine W_exit ?_
      refine thenS_e ?_
      refine thenS_e ?_
      cases h
      exact And.intro rfl rfl

def impl_LosersOf (n : Nat) (x1 : List Nod) (x2 : List Rcd) : Option ((List Int)) :=
 bindO (impl_ValidLog n x1 x2) fun b107 =>
 iteO (!b107)
 (some ([] : List Int))
 (bindO (impl_LosersOf_L1 x2 x1 n ([false, false, false, false] : List Bool) 0) fun x177 =>
 guardO (0 + 4 ≤ x177.length) <|
 bindO (impl_marked n ((x177.drop 0).take 4)) fun x211 =>
 some x211)

theorem impl_LosersOf_ok (n : Nat) (x1 : List Nod) (x2 : List Rcd) (x106 : List Int) (h : impl_LosersOf n x1 x2 = some x106) : FOk EE 13 [.one (.e (.sl 0 0 x1.length)), .one (.e (.sl 1 0 x2.length))] [.row .nod x1 false, .row .rcd x2 false] (.one (.e (.sl 2 0 x106.length))) [.row .nod x1 false, .row .rcd x2 false, .row .int x106 true] := by
  unfold impl_LosersOf at h
  refine FOk_of_W 34 2 Try.func13 rfl rfl (Nat.le_of_ble_eq_true rfl) rfl (fun w X θ => ?_)
  refine W_seq ?_
  refine W_region ?_
  refine WO_step 1 [0, 1] [0, 1] True ⟨[(0, .one (.e (.sl 0 0 x1.length))), (1, .one (.e (.sl 1 0 x2.length)))], [.row .nod x1 false, .row .rcd x2 false]⟩ (by kernel_rfl) trivial ?_
  refine WO_nil rfl ?_
  refine thenS_n ?_
  refine W_seq ?_
  refine W_seq ?_
  refine W_region ?_
  refine WO_step 2 [0, 1] [1, 8, 9] True ⟨[(1, .one (.e (.sl 1 0 x2.length))), (8, .one (.e (.sl 0 0 x1.length))), (9, .one (.e (.sl 1 0 x2.length)))], [.row .nod x1 false, .row .rcd x2 false]⟩ (by kernel_rfl) trivial ?_
  refine bindO_e h (fun b107 hc108 h => ?_)
  refine WO_call [.ro 0, .ro 1] Try.f16 rfl rfl rfl (by kernel_rfl) rfl rfl (by kernel_rfl) (impl_ValidLog_ok n x1 x2 b107 hc108) (And.intro (And.intro rfl rfl) (And.intro (And.intro rfl rfl) (trivial))) rfl ?_
  refine WO_step 1 [0, 1] [1, 11] True ⟨[(1, .one (.e (.sl 1 0 x2.length))), (11, B (!b107))], [.row .nod x1 false, .row .rcd x2 false]⟩ (by kernel_rfl) trivial ?_
  refine WO_nil rfl ?_
  refine thenS_n ?_
  refine iteO_e h (fun hb110 h => W_true rfl hb110 ?_) (fun hb110 h => W_false rfl hb110 ?_)
  · refine W_seq ?_
    refine W_region ?_
    refine WO_step 1 [0, 1] [4] True ⟨[(4, .one (.e (.nsl)))], [.row .nod x1 false, .row .rcd x2 false]⟩ (by kernel_rfl) trivial ?_
    refine WO_nilrow 4 .int rfl ?_
    refine WO_sub [0, 1, 2] [4] (st' := ⟨[(4, .one (.e (.sl 2 0 (([] : List Int).length))))], [.row .nod x1 false, .row .rcd x2 false, .row .int ([] : List Int) true]⟩) (by kernel_rfl) ?_
    refine WO_nil rfl ?_
    refine thenS_n ?_
    refine W_ret ?_
    refine thenS_r ?_
    cases h
    exact ⟨[0, 1, 2], True, by kernel_rfl, trivial⟩
  · refine W_sub [0, 1] [1] (st' := ⟨[(1, .one (.e (.sl 1 0 x2.length)))], [.row .nod x1 false, .row .rcd x2 false]⟩) (by kernel_rfl) ?_
    refine W_skip ?_
    refine thenS_n ?_
    refine W_seq ?_
    refine W_region ?_
    refine WO_step 1 [0, 1, 2] [1, 5] ((0 < ([false, false, false, false] : List Bool).length ∧ ([false, false, false, false] : List Bool).length ≤ 1099511627776) ∧ True) ⟨[(1, .one (.e (.sl 1 0 x2.length))), (5, .one (.e (.rp 2 0 0)))], [.row .nod x1 false, .row .rcd x2 false, .row .bool ([false, false, false, false] : List Bool) true]⟩ (by kernel_rfl) ⟨(by decide), trivial⟩ ?_
    refine WO_nil rfl ?_
    refine thenS_n ?_
    refine W_seq ?_
    refine W_seq ?_
    refine W_region ?_
    refine WO_step 3 [0, 1, 2] [1, 5, 12, 13, 14] (True ∧ True) ⟨[(1, .one (.e (.sl 1 0 x2.length))), (5, .one (.e (.rp 2 0 0))), (12, .one (.e (.sl 1 0 x2.length))), (13, I ((x2.length : Nat) : Int)), (14, I 0)], [.row .nod x1 false, .row .rcd x2 false, .row .bool ([false, false, false, false] : List Bool) true]⟩ (by kernel_rfl) ⟨trivial, trivial⟩ ?_
    refine WO_nil rfl ?_
    refine thenS_n ?_
    refine W_block ?_
    refine W_loop ?_
    refine bindO_e h (fun x177 hx177 h => ?_)
    refine WL_cut (impl_LosersOf_L1_ok w X θ x2 x1 x177 n ([false, false, false, false] : List Bool) 0 hx177) ?_
    rintro _ _ ⟨rfl, rfl⟩
    refine blockS_y ?_
    refine thenS_n ?_
    refine W_seq ?_
    refine W_region ?_
    refine guardO_e h (fun hg210 h => ?_)
    refine WO_step 1 [0, 1] [32] ((0 + 4 ≤ x177.length) ∧ True) ⟨[(32, .one (.arr .bool ((x177.drop 0).take 4)))], [.row .nod x1 false, .row .rcd x2 false]⟩ (by kernel_rfl) ⟨hg210, trivial⟩ ?_
    refine bindO_e h (fun x211 hc212 h => ?_)
    refine WO_call [] Try.f41 rfl rfl rfl (by kernel_rfl) rfl rfl (by kernel_rfl) (impl_marked_ok n ((x177.drop 0).take 4) x211 hc212) (trivial) rfl ?_
    refine WO_step 1 [0, 1, 2] [4] True ⟨[(4, .one (.e (.sl 2 0 x211.length)))], [.row .nod x1 false, .row .rcd x2 false, .row .int x211 true]⟩ (by kernel_rfl) trivial ?_
    refine WO_nil rfl ?_
    refine thenS_n ?_
    refine W_ret ?_
    cases h
    exact ⟨[0, 1, 2], True, by kernel_rfl, trivial⟩

/- laws.FnRedoLogLosers -/
def laws_FnRedoLogLosers_L2 (k380 : Nat) (k381 : Nat) (x379 : List Rcd) (x383 : List Nod) (x510 : List Rcd) (i511 : Int) (x1 : List Int) (x378 : List Nod) : Nat → Bool → Int → Option (Bool)
| 0, _, _ => none
| n + 1, b693, i694 =>
 iteO (decide (i694 < ((x379.length : Nat) : Int)))
 (bindO (iteO b693
 (some true)
 (guardO (0 ≤ i694 ∧ i694 < ((x379.length : Nat) : Int)) <|
 iteO ((x379.getD i694.toNat drcd).fin)
 (guardO (0 ≤ i694 ∧ i694 < ((x379.length : Nat) : Int)) <|
 guardO (0 ≤ i511 ∧ i511 < ((x379.length : Nat) : Int)) <|
 some (decide (((x379.getD i694.toNat drcd).who) = ((x379.getD i511.toNat drcd).who))))
 (some false))) fun b729 =>
 laws_FnRedoLogLosers_L2 k380 k381 x379 x383 x510 i511 x1 x378 n b729 (w64 (i694 + 1)))
 (some b693)

theorem laws_FnRedoLogLosers_L2_ok (w : World) (X : Nat → Prop) (θ : List Loc) (k380 : Nat) (k381 : Nat) (x379 : List Rcd) (x383 : List Nod) (x510 : List Rcd) (i511 : Int) (x1 : List Int) (x378 : List Nod) (b713 : Bool) : ∀ (n : Nat) (b693 : Bool) (i694 : Int), laws_FnRedoLogLosers_L2 k380 k381 x379 x383 x510 i511 x1 x378 n b693 i694 = some b713 → WL EE ⟨w, X, θ, 98, 1⟩ (subC [1, 1, 1, 1, 1, 1, 0, 1, 4, 4, 1, 0, 4, 1, 0, 1, 4, 4] (bodyC Try.f5)) (fun (e : Exit) (s : St) => e = .exit 2 ∧ s = ⟨[(3, .one (.e (.sl 1 k380 k381))), (4, .one (.e (.sl 2 0 x379.length))), (5, .one (.e (.sl 3 0 x383.length))), (6, .one (.e (.sl 4 0 x510.length))), (7, I i511), (8, B b713)], [.row .u8 x1 false, .row .nod x378 true, .row .rcd x379 true, .row .nod x383 true, .row .rcd x510 true]⟩) ⟨[(3, .one (.e (.sl 1 k380 k381))), (4, .one (.e (.sl 2 0 x379.length))), (5, .one (.e (.sl 3 0 x383.length))), (6, .one (.e (.sl 4 0 x510.length))), (7, I i511), (8, B b693), (9, I i694)], [.row .u8 x1 false, .row .nod x378 true, .row .rcd x379 true, .row .nod x383 true, .row .rcd x510 true]⟩ := by
  intro n
  induction n with
  | zero => intro _ _ h; exact none_e h
  | succ n ih =>
    intro b693 i694 h
    rw [laws_FnRedoLogLosers_L2] at h
    refine WL_round ?_
    refine W_seq ?_
    refine W_seq ?_
    refine W_region ?_
    refine WO_step 4 [0, 1, 2, 3, 4] [3, 4, 5, 6, 7, 8, 9, 54] (True ∧ (True ∧ True)) ⟨[(3, .one (.e (.sl 1 k380 k381))), (4, .one (.e (.sl 2 0 x379.length))), (5, .one (.e (.sl 3 0 x383.length))), (6, .one (.e (.sl 4 0 x510.length))), (7, I i511), (8, B b693), (9, I i694), (54, B (decide (i694 < ((x379.length : Nat) : Int))))], [.row .u8 x1 false, .row .nod x378 true, .row .rcd x379 true, .row .nod x383 true, .row .rcd x510 true]⟩ (by kernel_rfl) ⟨trivial, trivial, trivial⟩ ?_
    refine WO_nil rfl ?_
    refine thenS_n ?_
    refine iteO_e h (fun hb716 h => W_true rfl hb716 ?_) (fun hb716 h => W_false rfl hb716 ?_)
    · refine W_sub [0, 1, 2, 3, 4] [3, 4, 5, 6, 7, 8, 9] (st' := ⟨[(3, .one (.e (.sl 1 k380 k381))), (4, .one (.e (.sl 2 0 x379.length))), (5, .one (.e (.sl 3 0 x383.length))), (6, .one (.e (.sl 4 0 x510.length))), (7, I i511), (8, B b693), (9, I i694)], [.row .u8 x1 false, .row .nod x378 true, .row .rcd x379 true, .row .nod x383 true, .row .rcd x510 true]⟩) (by kernel_rfl) ?_
      refine W_skip ?_
      refine thenS_n ?_
      refine W_seq ?_
      refine W_block ?_
      refine bindO_e h (fun b729 hv730 h => ?_)
      refine W_cut (Q' := fun (e : Exit) (s : St) => e = .normal ∧ s = ⟨[(3, .one (.e (.sl 1 k380 k381))), (4, .one (.e (.sl 2 0 x379.length))), (5, .one (.e (.sl 3 0 x383.length))), (6, .one (.e (.sl 4 0 x510.length))), (7, I i511), (8, B b729), (9, I i694)], [.row .u8 x1 false, .row .nod x378 true, .row .rcd x379 true, .row .nod x383 true, .row .rcd x510 true]⟩) ?_ ?_
      · refine iteO_e hv730 (fun hb724 hv730 => ?_) (fun hb724 hv730 => ?_)
        · refine W_draw [] true (by kernel_rfl) (by kernel_rfl) ?_
          refine WD_takeK [0, 1] [3, 4, 5, 6, 7, 8, 9, 58] [3, 4, 5, 6, 7, 8, 9, 58] (φ := True) (ls' := #[true, true, false, false, false, false, false, false, false, false, false, false, false, false, false, false, false, false, false, false, false, false]) (Ts' := [(3, .one (.e (.sl 1 k380 k381))), (4, .one (.e (.sl 2 0 x379.length))), (5, .one (.e (.sl 3 0 x383.length))), (6, .one (.e (.sl 4 0 x510.length))), (7, I i511), (8, B b693), (9, I i694), (58, B b693)]) (st' := ⟨[(3, .one (.e (.sl 1 k380 k381))), (4, .one (.e (.sl 2 0 x379.length))), (5, .one (.e (.sl 3 0 x383.length))), (6, .one (.e (.sl 4 0 x510.length))), (7, I i511), (8, B b693), (9, I i694), (58, B b693)], [.row .u8 x1 false, .row .nod x378 true, .row .rcd x379 true, .row .nod x383 true, .row .rcd x510 true]⟩) (n2 := 20) (by kernel_rfl) trivial rfl ?_
          refine WD_known 58 true rfl rfl hb724 ?_
          refine WD_takeK [2, 3, 4, 5, 6, 7, 8, 9, 10, 11, 12, 13, 14, 15, 16, 17, 18, 19, 20, 21] [3, 4, 5, 6, 7, 8, 9] [3, 4, 5, 6, 7, 8, 9] (φ := True) (ls' := #[true, true, true, true, true, true, true, true, true, true, true, true, true, true, true, true, true, true, true, true, true, true]) (Ts' := [(3, .one (.e (.sl 1 k380 k381))), (4, .one (.e (.sl 2 0 x379.length))), (5, .one (.e (.sl 3 0 x383.length))), (6, .one (.e (.sl 4 0 x510.length))), (7, I i511), (8, B true), (9, I i694)]) (st' := ⟨[(3, .one (.e (.sl 1 k380 k381))), (4, .one (.e (.sl 2 0 x379.length))), (5, .one (.e (.sl 3 0 x383.length))), (6, .one (.e (.sl 4 0 x510.length))), (7, I i511), (8, B true), (9, I i694)], [.row .u8 x1 false, .row .nod x378 true, .row .rcd x379 true, .row .nod x383 true, .row .rcd x510 true]⟩) (n2 := 0) (by kernel_rfl) trivial rfl ?_
          exact WD_done [0, 1, 2, 3, 4] [3, 4, 5, 6, 7, 8, 9] (st' := ⟨[(3, .one (.e (.sl 1 k380 k381))), (4, .one (.e (.sl 2 0 x379.length))), (5, .one (.e (.sl 3 0 x383.length))), (6, .one (.e (.sl 4 0 x510.length))), (7, I i511), (8, B true), (9, I i694)], [.row .u8 x1 false, .row .nod x378 true, .row .rcd x379 true, .row .nod x383 true, .row .rcd x510 true]⟩) (by kernel_rfl) (by kernel_rfl) (And.intro rfl (by cases hv730; rfl))
        · refine guardO_e hv730 (fun hg725 hv730 => ?_)
          refine iteO_e hv730 (fun hb726 hv730 => ?_) (fun hb726 hv730 => ?_)
          · refine guardO_e hv730 (fun hg727 hv730 => ?_)
            refine guardO_e hv730 (fun hg728 hv730 => ?_)
            refine W_draw [] true (by kernel_rfl) (by kernel_rfl) ?_
            refine WD_takeK [0, 1] [3, 4, 5, 6, 7, 8, 9, 58] [3, 4, 5, 6, 7, 8, 9, 58] (φ := True) (ls' := #[true, true, false, false, false, false, false, false, false, false, false, false, false, false, false, false, false, false, false, false, false, false]) (Ts' := [(3, .one (.e (.sl 1 k380 k381))), (4, .one (.e (.sl 2 0 x379.length))), (5, .one (.e (.sl 3 0 x383.length))), (6, .one (.e (.sl 4 0 x510.length))), (7, I i511), (8, B b693), (9, I i694), (58, B b693)]) (st' := ⟨[(3, .one (.e (.sl 1 k380 k381))), (4, .one (.e (.sl 2 0 x379.length))), (5, .one (.e (.sl 3 0 x383.length))), (6, .one (.e (.sl 4 0 x510.length))), (7, I i511), (8, B b693), (9, I i694), (58, B b693)], [.row .u8 x1 false, .row .nod x378 true, .row .rcd x379 true, .row .nod x383 true, .row .rcd x510 true]⟩) (n2 := 20) (by kernel_rfl) trivial rfl ?_
            refine WD_known 58 false rfl rfl hb724 ?_
            refine WD_takeK [2, 3, 4, 5, 6, 7] [3, 4, 5, 6, 7, 8, 9, 58, 64] [3, 4, 5, 6, 7, 8, 9, 58, 64] (φ := ((0 ≤ i694 ∧ i694 < ((x379.length : Nat) : Int)) ∧ (0 ≤ i694 ∧ i694 < ((x379.length : Nat) : Int)) ∧ (True ∧ True ∧ True))) (ls' := #[true, true, true, true, true, true, true, true, false, false, false, false, false, false, false, false, false, false, false, false, false, false]) (Ts' := [(3, .one (.e (.sl 1 k380 k381))), (4, .one (.e (.sl 2 0 x379.length))), (5, .one (.e (.sl 3 0 x383.length))), (6, .one (.e (.sl 4 0 x510.length))), (7, I i511), (8, B b693), (9, I i694), (58, B false), (64, B ((x379.getD i694.toNat drcd).fin))]) (st' := ⟨[(3, .one (.e (.sl 1 k380 k381))), (4, .one (.e (.sl 2 0 x379.length))), (5, .one (.e (.sl 3 0 x383.length))), (6, .one (.e (.sl 4 0 x510.length))), (7, I i511), (8, B b693), (9, I i694), (58, B false), (64, B ((x379.getD i694.toNat drcd).fin))], [.row .u8 x1 false, .row .nod x378 true, .row .rcd x379 true, .row .nod x383 true, .row .rcd x510 true]⟩) (n2 := 14) (by kernel_rfl) ⟨hg725, hg725, trivial, trivial, trivial⟩ rfl ?_
            refine WD_known 64 true rfl rfl hb726 ?_
            refine WD_takeK [8, 9, 10, 11, 12, 13, 14, 15, 16, 17, 18, 19, 20, 21] [3, 4, 5, 6, 7, 8, 9] [3, 4, 5, 6, 7, 8, 9] (φ := ((0 ≤ i694 ∧ i694 < ((x379.length : Nat) : Int)) ∧ (0 ≤ i694 ∧ i694 < ((x379.length : Nat) : Int)) ∧ (True ∧ True ∧ ((0 ≤ i511 ∧ i511 < ((x379.length : Nat) : Int)) ∧ (0 ≤ i511 ∧ i511 < ((x379.length : Nat) : Int)) ∧ (True ∧ True ∧ (True ∧ True ∧ True)))))) (ls' := #[true, true, true, true, true, true, true, true, true, true, true, true, true, true, true, true, true, true, true, true, true, true]) (Ts' := [(3, .one (.e (.sl 1 k380 k381))), (4, .one (.e (.sl 2 0 x379.length))), (5, .one (.e (.sl 3 0 x383.length))), (6, .one (.e (.sl 4 0 x510.length))), (7, I i511), (8, B (decide (((x379.getD i694.toNat drcd).who) = ((x379.getD i511.toNat drcd).who)))), (9, I i694)]) (st' := ⟨[(3, .one (.e (.sl 1 k380 k381))), (4, .one (.e (.sl 2 0 x379.length))), (5, .one (.e (.sl 3 0 x383.length))), (6, .one (.e (.sl 4 0 x510.length))), (7, I i511), (8, B (decide (((x379.getD i694.toNat drcd).who) = ((x379.getD i511.toNat drcd).who)))), (9, I i694)], [.row .u8 x1 false, .row .nod x378 true, .row .rcd x379 true, .row .nod x383 true, .row .rcd x510 true]⟩) (n2 := 0) (by kernel_rfl) ⟨hg727, hg727, trivial, trivial, hg728, hg728, trivial, trivial, trivial, trivial, trivial⟩ rfl ?_
            exact WD_done [0, 1, 2, 3, 4] [3, 4, 5, 6, 7, 8, 9] (st' := ⟨[(3, .one (.e (.sl 1 k380 k381))), (4, .one (.e (.sl 2 0 x379.length))), (5, .one (.e (.sl 3 0 x383.length))), (6, .one (.e (.sl 4 0 x510.length))), (7, I i511), (8, B (decide (((x379.getD i694.toNat drcd).who) = ((x379.getD i511.toNat drcd).who)))), (9, I i694)], [.row .u8 x1 false, .row .nod x378 true, .row .rcd x379 true, .row .nod x383 true, .row .rcd x510 true]⟩) (by kernel_rfl) (by kernel_rfl) (And.intro rfl (by cases hv730; rfl))
          · refine W_draw [] true (by kernel_rfl) (by kernel_rfl) ?_
            refine WD_takeK [0, 1] [3, 4, 5, 6, 7, 8, 9, 58] [3, 4, 5, 6, 7, 8, 9, 58] (φ := True) (ls' := #[true, true, false, false, false, false, false, false, false, false, false, false, false, false, false, false, false, false, false, false, false, false]) (Ts' := [(3, .one (.e (.sl 1 k380 k381))), (4, .one (.e (.sl 2 0 x379.length))), (5, .one (.e (.sl 3 0 x383.length))), (6, .one (.e (.sl 4 0 x510.length))), (7, I i511), (8, B b693), (9, I i694), (58, B b693)]) (st' := ⟨[(3, .one (.e (.sl 1 k380 k381))), (4, .one (.e (.sl 2 0 x379.length))), (5, .one (.e (.sl 3 0 x383.length))), (6, .one (.e (.sl 4 0 x510.length))), (7, I i511), (8, B b693), (9, I i694), (58, B b693)], [.row .u8 x1 false, .row .nod x378 true, .row .rcd x379 true, .row .nod x383 true, .row .rcd x510 true]⟩) (n2 := 20) (by kernel_rfl) trivial rfl ?_
            refine WD_known 58 false rfl rfl hb724 ?_
            refine WD_takeK [2, 3, 4, 5, 6, 7] [3, 4, 5, 6, 7, 8, 9, 58, 64] [3, 4, 5, 6, 7, 8, 9, 58, 64] (φ := ((0 ≤ i694 ∧ i694 < ((x379.length : Nat) : Int)) ∧ (0 ≤ i694 ∧ i694 < ((x379.length : Nat) : Int)) ∧ (True ∧ True ∧ True))) (ls' := #[true, true, true, true, true, true, true, true, false, false, false, false, false, false, false, false, false, false, false, false, false, false]) (Ts' := [(3, .one (.e (.sl 1 k380 k381))), (4, .one (.e (.sl 2 0 x379.length))), (5, .one (.e (.sl 3 0 x383.length))), (6, .one (.e (.sl 4 0 x510.length))), (7, I i511), (8, B b693), (9, I i694), (58, B false), (64, B ((x379.getD i694.toNat drcd).fin))]) (st' := ⟨[(3, .one (.e (.sl 1 k380 k381))), (4, .one (.e (.sl 2 0 x379.length))), (5, .one (.e (.sl 3 0 x383.length))), (6, .one (.e (.sl 4 0 x510.length))), (7, I i511), (8, B b693), (9, I i694), (58, B false), (64, B ((x379.getD i694.toNat drcd).fin))], [.row .u8 x1 false, .row .nod x378 true, .row .rcd x379 true, .row .nod x383 true, .row .rcd x510 true]⟩) (n2 := 14) (by kernel_rfl) ⟨hg725, hg725, trivial, trivial, trivial⟩ rfl ?_
            refine WD_known 64 false rfl rfl hb726 ?_
            refine WD_takeK [8, 9, 10, 11, 12, 13, 14, 15, 16, 17, 18, 19, 20, 21] [3, 4, 5, 6, 7, 8, 9] [3, 4, 5, 6, 7, 8, 9] (φ := True) (ls' := #[true, true, true, true, true, true, true, true, true, true, true, true, true, true, true, true, true, true, true, true, true, true]) (Ts' := [(3, .one (.e (.sl 1 k380 k381))), (4, .one (.e (.sl 2 0 x379.length))), (5, .one (.e (.sl 3 0 x383.length))), (6, .one (.e (.sl 4 0 x510.length))), (7, I i511), (8, B false), (9, I i694)]) (st' := ⟨[(3, .one (.e (.sl 1 k380 k381))), (4, .one (.e (.sl 2 0 x379.length))), (5, .one (.e (.sl 3 0 x383.length))), (6, .one (.e (.sl 4 0 x510.length))), (7, I i511), (8, B false), (9, I i694)], [.row .u8 x1 false, .row .nod x378 true, .row .rcd x379 true, .row .nod x383 true, .row .rcd x510 true]⟩) (n2 := 0) (by kernel_rfl) trivial rfl ?_
            exact WD_done [0, 1, 2, 3, 4] [3, 4, 5, 6, 7, 8, 9] (st' := ⟨[(3, .one (.e (.sl 1 k380 k381))), (4, .one (.e (.sl 2 0 x379.length))), (5, .one (.e (.sl 3 0 x383.length))), (6, .one (.e (.sl 4 0 x510.length))), (7, I i511), (8, B false), (9, I i694)], [.row .u8 x1 false, .row .nod x378 true, .row .rcd x379 true, .row .nod x383 true, .row .rcd x510 true]⟩) (by kernel_rfl) (by kernel_rfl) (And.intro rfl (by cases hv730; rfl))
      · rintro _ _ ⟨rfl, rfl⟩
        refine blockS_n ?_
        refine thenS_n ?_
        refine W_region ?_
        refine WO_step 3 [0, 1, 2, 3, 4] [3, 4, 5, 6, 7, 8, 9] (True ∧ True) ⟨[(3, .one (.e (.sl 1 k380 k381))), (4, .one (.e (.sl 2 0 x379.length))), (5, .one (.e (.sl 3 0 x383.length))), (6, .one (.e (.sl 4 0 x510.length))), (7, I i511), (8, B b729), (9, I (w64 (i694 + 1)))], [.row .u8 x1 false, .row .nod x378 true, .row .rcd x379 true, .row .nod x383 true, .row .rcd x510 true]⟩ (by kernel_rfl) ⟨trivial, trivial⟩ ?_
        refine WO_nil rfl ?_
        refine thenS_n ?_
        exact ih _ _ h
    · refine W_sub [0, 1, 2, 3, 4] [3, 4, 5, 6, 7, 8] (st' := ⟨[(3, .one (.e (.sl 1 k380 k381))), (4, .one (.e (.sl 2 0 x379.length))), (5, .one (.e (.sl 3 0 x383.length))), (6, .one (.e (.sl 4 0 x510.length))), (7, I i511), (8, B b693)], [.row .u8 x1 false, .row .nod x378 true, .row .rcd x379 true, .row .nod x383 true, .row .rcd x510 true]⟩) (by kernel_rfl) ?_
      refine W_exit ?_
      refine thenS_e ?_
      refine thenS_e ?_
      cases h
      exact And.intro rfl rfl

def laws_FnRedoLogLosers_L1 (k380 : Nat) (k381 : Nat) (x379 : List Rcd) (x383 : List Nod) (x1 : List Int) (x378 : List Nod) : Nat → (List Rcd) → Int → Option ((List Rcd))
| 0, _, _ => none
| n + 1, x510, i511 =>
 iteO (decide (i511 < ((x379.length : Nat) : Int)))
 (guardO (0 ≤ i511 ∧ i511 < ((x379.length : Nat) : Int)) <|
 bindO (laws_FnRedoLogLosers_L2 k380 k381 x379 x383 x510 i511 x1 x378 n ((x379.getD i511.toNat drcd).fin) (w64 (i511 + 1))) fun b713 =>
 bindO (iteO b713
 (guardO (0 ≤ i511 ∧ i511 < ((x379.length : Nat) : Int)) <|
 guardO (0 = 0 ∧ x510.length = x510.length ∧ x510.length + (([(⟨(x379.getD i511.toNat drcd).who, (x379.getD i511.toNat drcd).node, (x379.getD i511.toNat drcd).value, (x379.getD i511.toNat drcd).fin⟩ : Rcd)].drop 0).take ([(⟨(x379.getD i511.toNat drcd).who, (x379.getD i511.toNat drcd).node, (x379.getD i511.toNat drcd).value, (x379.getD i511.toNat drcd).fin⟩ : Rcd)].length)).length ≤ 1099511627776) <|
 some (x510 ++ (([(⟨(x379.getD i511.toNat drcd).who, (x379.getD i511.toNat drcd).node, (x379.getD i511.toNat drcd).value, (x379.getD i511.toNat drcd).fin⟩ : Rcd)].drop 0).take ([(⟨(x379.getD i511.toNat drcd).who, (x379.getD i511.toNat drcd).node, (x379.getD i511.toNat drcd).value, (x379.getD i511.toNat drcd).fin⟩ : Rcd)].length))))
 (some x510)) fun x735 =>
 laws_FnRedoLogLosers_L1 k380 k381 x379 x383 x1 x378 n x735 (w64 (i511 + 1)))
 (some x510)

theorem laws_FnRedoLogLosers_L1_ok (w : World) (X : Nat → Prop) (θ : List Loc) (k380 : Nat) (k381 : Nat) (x379 : List Rcd) (x383 : List Nod) (x1 : List Int) (x378 : List Nod) (x616 : (List Rcd)) : ∀ (n : Nat) (x510 : List Rcd) (i511 : Int), laws_FnRedoLogLosers_L1 k380 k381 x379 x383 x1 x378 n x510 i511 = some x616 → WL EE ⟨w, X, θ, 98, 1⟩ (subC [1, 1, 1, 1, 1, 1, 0, 1, 4, 4] (bodyC Try.f5)) (fun (e : Exit) (s : St) => e = .exit 0 ∧ s = ⟨[(3, .one (.e (.sl 1 k380 k381))), (5, .one (.e (.sl 2 0 x383.length))), (6, .one (.e (.sl 3 0 x616.length)))], [.row .u8 x1 false, .row .nod x378 true, .row .nod x383 true, .row .rcd x616 true]⟩) ⟨[(3, .one (.e (.sl 1 k380 k381))), (4, .one (.e (.sl 2 0 x379.length))), (5, .one (.e (.sl 3 0 x383.length))), (6, .one (.e (.sl 4 0 x510.length))), (7, I i511)], [.row .u8 x1 false, .row .nod x378 true, .row .rcd x379 true, .row .nod x383 true, .row .rcd x510 true]⟩ := by
  intro n
  induction n with
  | zero => intro _ _ h; exact none_e h
  | succ n ih =>
    intro x510 i511 h
    rw [laws_FnRedoLogLosers_L1] at h
    refine WL_round ?_
    refine W_seq ?_
    refine W_seq ?_
    refine W_region ?_
    refine WO_step 4 [0, 1, 2, 3, 4] [3, 4, 5, 6, 7, 41] (True ∧ (True ∧ True)) ⟨[(3, .one (.e (.sl 1 k380 k381))), (4, .one (.e (.sl 2 0 x379.length))), (5, .one (.e (.sl 3 0 x383.length))), (6, .one (.e (.sl 4 0 x510.length))), (7, I i511), (41, B (decide (i511 < ((x379.length : Nat) : Int))))], [.row .u8 x1 false, .row .nod x378 true, .row .rcd x379 true, .row .nod x383 true, .row .rcd x510 true]⟩ (by kernel_rfl) ⟨trivial, trivial, trivial⟩ ?_
    refine WO_nil rfl ?_
    refine thenS_n ?_
    refine iteO_e h (fun hb619 h => W_true rfl hb619 ?_) (fun hb619 h => W_false rfl hb619 ?_)
    · refine W_sub [0, 1, 2, 3, 4] [3, 4, 5, 6, 7] (st' := ⟨[(3, .one (.e (.sl 1 k380 k381))), (4, .one (.e (.sl 2 0 x379.length))), (5, .one (.e (.sl 3 0 x383.length))), (6, .one (.e (.sl 4 0 x510.length))), (7, I i511)], [.row .u8 x1 false, .row .nod x378 true, .row .rcd x379 true, .row .nod x383 true, .row .rcd x510 true]⟩) (by kernel_rfl) ?_
      refine W_skip ?_
      refine thenS_n ?_
      refine W_seq ?_
      refine W_block ?_
      refine W_seq ?_
      refine W_region ?_
      refine guardO_e h (fun hg670 h => ?_)
      refine WO_step 6 [0, 1, 2, 3, 4] [3, 4, 5, 6, 7, 8] ((0 ≤ i511 ∧ i511 < ((x379.length : Nat) : Int)) ∧ (True ∧ True)) ⟨[(3, .one (.e (.sl 1 k380 k381))), (4, .one (.e (.sl 2 0 x379.length))), (5, .one (.e (.sl 3 0 x383.length))), (6, .one (.e (.sl 4 0 x510.length))), (7, I i511), (8, B ((x379.getD i511.toNat drcd).fin))], [.row .u8 x1 false, .row .nod x378 true, .row .rcd x379 true, .row .nod x383 true, .row .rcd x510 true]⟩ (by kernel_rfl) ⟨hg670, trivial, trivial⟩ ?_
      refine WO_nil rfl ?_
      refine thenS_n ?_
      refine W_seq ?_
      refine W_seq ?_
      refine W_region ?_
      refine WO_step 3 [0, 1, 2, 3, 4] [3, 4, 5, 6, 7, 8, 9] (True ∧ True) ⟨[(3, .one (.e (.sl 1 k380 k381))), (4, .one (.e (.sl 2 0 x379.length))), (5, .one (.e (.sl 3 0 x383.length))), (6, .one (.e (.sl 4 0 x510.length))), (7, I i511), (8, B ((x379.getD i511.toNat drcd).fin)), (9, I (w64 (i511 + 1)))], [.row .u8 x1 false, .row .nod x378 true, .row .rcd x379 true, .row .nod x383 true, .row .rcd x510 true]⟩ (by kernel_rfl) ⟨trivial, trivial⟩ ?_
      refine WO_nil rfl ?_
      refine thenS_n ?_
      refine W_block ?_
      refine W_loop ?_
      refine bindO_e h (fun b713 hb713 h => ?_)
      refine WL_cut (laws_FnRedoLogLosers_L2_ok w X θ k380 k381 x379 x383 x510 i511 x1 x378 b713 n ((x379.getD i511.toNat drcd).fin) (w64 (i511 + 1)) hb713) ?_
      rintro _ _ ⟨rfl, rfl⟩
      refine blockS_y ?_
      refine thenS_n ?_
      refine W_seq ?_
      refine W_region ?_
      refine WO_step 1 [0, 1, 2, 3, 4] [3, 4, 5, 6, 7, 78] True ⟨[(3, .one (.e (.sl 1 k380 k381))), (4, .one (.e (.sl 2 0 x379.length))), (5, .one (.e (.sl 3 0 x383.length))), (6, .one (.e (.sl 4 0 x510.length))), (7, I i511), (78, B b713)], [.row .u8 x1 false, .row .nod x378 true, .row .rcd x379 true, .row .nod x383 true, .row .rcd x510 true]⟩ (by kernel_rfl) trivial ?_
      refine WO_nil rfl ?_
      refine thenS_n ?_
      refine bindO_e h (fun x735 hx735 h => ?_)
      refine W_cut (Q' := fun (e : Exit) (s : St) => e = .normal ∧ s = ⟨[(3, .one (.e (.sl 1 k380 k381))), (4, .one (.e (.sl 2 0 x379.length))), (5, .one (.e (.sl 3 0 x383.length))), (6, .one (.e (.sl 4 0 x735.length))), (7, I i511)], [.row .u8 x1 false, .row .nod x378 true, .row .rcd x379 true, .row .nod x383 true, .row .rcd x735 true]⟩) ?_ ?_
      · refine iteO_e hx735 (fun hb737 hx735 => W_true rfl hb737 ?_) (fun hb737 hx735 => W_false rfl hb737 ?_)
        · refine W_region ?_
          refine guardO_e hx735 (fun hg738 hx735 => ?_)
          refine guardO_e hx735 (fun hg739 hx735 => ?_)
          refine WO_step 8 [0, 1, 2, 3, 6] [3, 4, 5, 6, 7] ((0 ≤ i511 ∧ i511 < ((x379.length : Nat) : Int)) ∧ (True ∧ ((0 = 0 ∧ x510.length = x510.length ∧ x510.length + (([(⟨(x379.getD i511.toNat drcd).who, (x379.getD i511.toNat drcd).node, (x379.getD i511.toNat drcd).value, (x379.getD i511.toNat drcd).fin⟩ : Rcd)].drop 0).take ([(⟨(x379.getD i511.toNat drcd).who, (x379.getD i511.toNat drcd).node, (x379.getD i511.toNat drcd).value, (x379.getD i511.toNat drcd).fin⟩ : Rcd)].length)).length ≤ 1099511627776) ∧ True))) ⟨[(3, .one (.e (.sl 1 k380 k381))), (4, .one (.e (.sl 2 0 x379.length))), (5, .one (.e (.sl 3 0 x383.length))), (6, .one (.e (.sl 4 0 ((x510 ++ (([(⟨(x379.getD i511.toNat drcd).who, (x379.getD i511.toNat drcd).node, (x379.getD i511.toNat drcd).value, (x379.getD i511.toNat drcd).fin⟩ : Rcd)].drop 0).take ([(⟨(x379.getD i511.toNat drcd).who, (x379.getD i511.toNat drcd).node, (x379.getD i511.toNat drcd).value, (x379.getD i511.toNat drcd).fin⟩ : Rcd)].length))).length)))), (7, I i511)], [.row .u8 x1 false, .row .nod x378 true, .row .rcd x379 true, .row .nod x383 true, .row .rcd (x510 ++ (([(⟨(x379.getD i511.toNat drcd).who, (x379.getD i511.toNat drcd).node, (x379.getD i511.toNat drcd).value, (x379.getD i511.toNat drcd).fin⟩ : Rcd)].drop 0).take ([(⟨(x379.getD i511.toNat drcd).who, (x379.getD i511.toNat drcd).node, (x379.getD i511.toNat drcd).value, (x379.getD i511.toNat drcd).fin⟩ : Rcd)].length))) true]⟩ (by kernel_rfl) ⟨hg738, trivial, hg739, trivial⟩ ?_
          refine WO_nil rfl ?_
          cases hx735
          exact And.intro rfl rfl
        · refine W_sub [0, 1, 2, 3, 4] [3, 4, 5, 6, 7] (st' := ⟨[(3, .one (.e (.sl 1 k380 k381))), (4, .one (.e (.sl 2 0 x379.length))), (5, .one (.e (.sl 3 0 x383.length))), (6, .one (.e (.sl 4 0 x510.length))), (7, I i511)], [.row .u8 x1 false, .row .nod x378 true, .row .rcd x379 true, .row .nod x383 true, .row .rcd x510 true]⟩) (by kernel_rfl) ?_
          refine W_skip ?_
          cases hx735
          exact And.intro rfl rfl
      · rintro _ _ ⟨rfl, rfl⟩
        refine blockS_n ?_
        refine thenS_n ?_
        refine W_region ?_
        refine WO_step 3 [0, 1, 2, 3, 4] [3, 4, 5, 6, 7] (True ∧ True) ⟨[(3, .one (.e (.sl 1 k380 k381))), (4, .one (.e (.sl 2 0 x379.length))), (5, .one (.e (.sl 3 0 x383.length))), (6, .one (.e (.sl 4 0 x735.length))), (7, I (w64 (i511 + 1)))], [.row .u8 x1 false, .row .nod x378 true, .row .rcd x379 true, .row .nod x383 true, .row .rcd x735 true]⟩ (by kernel_rfl) ⟨trivial, trivial⟩ ?_
        refine WO_nil rfl ?_
        refine thenS_n ?_
        exact ih _ _ h
    · refine W_sub [0, 1, 3, 4] [3, 5, 6] (st' := ⟨[(3, .one (.e (.sl 1 k380 k381))), (5, .one (.e (.sl 2 0 x383.length))), (6, .one (.e (.sl 3 0 x510.length)))], [.row .u8 x1 false, .row .nod x378 true, .row .nod x383 true, .row .rcd x510 true]⟩) (by kernel_rfl) ?_
      refine W_exit ?_
      refine thenS_e ?_
      refine thenS_e ?_
      cases h
      exact And.intro rfl rfl

def laws_FnRedoLogLosers (n : Nat) (x1 : List Int) : Option (Bool) :=
 iteO (decide (1048576 < ((x1.length : Nat) : Int)))
 (some true)
 (bindO (spec_DrawRedoLog n x1) fun (x378, x379, k380, k381) =>
 bindO (impl_RedoLog n ((x378.drop k380).take k381) x379) fun x383 =>
 bindO (spec_RedoLog n ((x378.drop k380).take k381) x379) fun x385 =>
 bindO (laws_equalNodes n x383 x385) fun b387 =>
 iteO ((!b387) || (decide (((x383.length : Nat) : Int) = 0)))
 (bindO (spec_RedoLog n ((x378.drop k380).take k381) x379) fun x398 =>
 bindO (laws_equalNodes n x383 x398) fun b400 =>
 some b400)
 (bindO (laws_FnRedoLogLosers_L1 k380 k381 x379 x383 x1 x378 n ([] : List Rcd) 0) fun x616 =>
 bindO (impl_RedoLog n ((x378.drop k380).take k381) x616) fun x741 =>
 bindO (laws_equalNodes n x741 x383) fun b743 =>
 bindO (iteO b743
 (bindO (impl_LosersOf n ((x378.drop k380).take k381) x616) fun x751 =>
 some (decide (((x751.length : Nat) : Int) = 0)))
 (some false)) fun b748 =>
 some b748))

theorem laws_FnRedoLogLosers_ok (n : Nat) (x1 : List Int) (b375 : Bool) (h : laws_FnRedoLogLosers n x1 = some b375) : FOk EE 5 [.one (.e (.sl 0 0 x1.length))] [.row .u8 x1 false] (B b375) [.row .u8 x1 false] := by
  unfold laws_FnRedoLogLosers at h
  refine FOk_of_W 98 1 Try.func5 rfl rfl (Nat.le_of_ble_eq_true rfl) rfl (fun w X θ => ?_)
  refine W_seq ?_
  refine W_region ?_
  refine WO_step 1 [0] [0] True ⟨[(0, .one (.e (.sl 0 0 x1.length)))], [.row .u8 x1 false]⟩ (by kernel_rfl) trivial ?_
  refine WO_nil rfl ?_
  refine thenS_n ?_
  refine W_seq ?_
  refine W_seq ?_
  refine W_region ?_
  refine WO_step 3 [0] [0, 12] (True ∧ (True ∧ True)) ⟨[(0, .one (.e (.sl 0 0 x1.length))), (12, B (decide (1048576 < ((x1.length : Nat) : Int))))], [.row .u8 x1 false]⟩ (by kernel_rfl) ⟨trivial, trivial, trivial⟩ ?_
  refine WO_nil rfl ?_
  refine thenS_n ?_
  refine iteO_e h (fun hb377 h => W_true rfl hb377 ?_) (fun hb377 h => W_false rfl hb377 ?_)
  · refine W_seq ?_
    refine W_region ?_
    refine WO_step 1 [0] [2] True ⟨[(2, B true)], [.row .u8 x1 false]⟩ (by kernel_rfl) trivial ?_
    refine WO_nil rfl ?_
    refine thenS_n ?_
    refine W_ret ?_
    refine thenS_r ?_
    cases h
    exact ⟨[0], True, by kernel_rfl, trivial⟩
  · refine W_sub [0] [0] (st' := ⟨[(0, .one (.e (.sl 0 0 x1.length)))], [.row .u8 x1 false]⟩) (by kernel_rfl) ?_
    refine W_skip ?_
    refine thenS_n ?_
    refine W_seq ?_
    refine W_region ?_
    refine WO_step 1 [0] [14] True ⟨[(14, .one (.e (.sl 0 0 x1.length)))], [.row .u8 x1 false]⟩ (by kernel_rfl) trivial ?_
    refine bindO_e h (fun v753 hc382 h => ?_)
    obtain ⟨x378, x379, k380, k381⟩ := v753
    refine WO_call [.ro 0] Try.f18 rfl rfl rfl (by kernel_rfl) rfl rfl (by kernel_rfl) (spec_DrawRedoLog_ok n x1 x378 x379 k380 k381 hc382) (And.intro (And.intro rfl rfl) (trivial)) rfl ?_
    refine WO_step 5 [0, 1, 2] [3, 4] True ⟨[(3, .one (.e (.sl 1 k380 k381))), (4, .one (.e (.sl 2 0 x379.length)))], [.row .u8 x1 false, .row .nod x378 true, .row .rcd x379 true]⟩ (by kernel_rfl) trivial ?_
    refine WO_nil rfl ?_
    refine thenS_n ?_
    refine W_seq ?_
    refine W_region ?_
    refine WO_step 2 [0, 1, 2] [3, 4, 18, 19] True ⟨[(3, .one (.e (.sl 1 k380 k381))), (4, .one (.e (.sl 2 0 x379.length))), (18, .one (.e (.sl 1 k380 k381))), (19, .one (.e (.sl 2 0 x379.length)))], [.row .u8 x1 false, .row .nod x378 true, .row .rcd x379 true]⟩ (by kernel_rfl) trivial ?_
    refine bindO_e h (fun x383 hc384 h => ?_)
    refine WO_call [.view 0, .ro 2] Try.f19 rfl rfl rfl (by kernel_rfl) rfl rfl (by kernel_rfl) (impl_RedoLog_ok n ((x378.drop k380).take k381) x379 x383 hc384) (And.intro (And.intro rfl rfl) (trivial)) rfl ?_
    refine WO_step 1 [0, 1, 2, 3] [3, 4, 5] True ⟨[(3, .one (.e (.sl 1 k380 k381))), (4, .one (.e (.sl 2 0 x379.length))), (5, .one (.e (.sl 3 0 x383.length)))], [.row .u8 x1 false, .row .nod x378 true, .row .rcd x379 true, .row .nod x383 true]⟩ (by kernel_rfl) trivial ?_
    refine WO_nil rfl ?_
    refine thenS_n ?_
    refine W_seq ?_
    refine W_seq ?_
    refine W_region ?_
    refine WO_step 3 [0, 1, 2, 3] [3, 4, 5, 21, 22, 23] True ⟨[(3, .one (.e (.sl 1 k380 k381))), (4, .one (.e (.sl 2 0 x379.length))), (5, .one (.e (.sl 3 0 x383.length))), (21, .one (.e (.sl 3 0 x383.length))), (22, .one (.e (.sl 1 k380 k381))), (23, .one (.e (.sl 2 0 x379.length)))], [.row .u8 x1 false, .row .nod x378 true, .row .rcd x379 true, .row .nod x383 true]⟩ (by kernel_rfl) trivial ?_
    refine bindO_e h (fun x385 hc386 h => ?_)
    refine WO_call [.view 0, .ro 2] Try.f21 rfl rfl rfl (by kernel_rfl) rfl rfl (by kernel_rfl) (spec_RedoLog_ok n ((x378.drop k380).take k381) x379 x385 hc386) (And.intro (And.intro rfl rfl) (trivial)) rfl ?_
    refine WO_sub [0, 1, 2, 3, 4] [3, 4, 5, 21, 24] (st' := ⟨[(3, .one (.e (.sl 1 k380 k381))), (4, .one (.e (.sl 2 0 x379.length))), (5, .one (.e (.sl 3 0 x383.length))), (21, .one (.e (.sl 3 0 x383.length))), (24, .one (.e (.sl 4 0 x385.length)))], [.row .u8 x1 false, .row .nod x378 true, .row .rcd x379 true, .row .nod x383 true, .row .nod x385 true]⟩) (by kernel_rfl) ?_
    refine bindO_e h (fun b387 hc388 h => ?_)
    refine WO_call [.ro 3, .ro 4] Try.f20 rfl rfl rfl (by kernel_rfl) rfl rfl (by kernel_rfl) (laws_equalNodes_ok n x383 x385 b387 hc388) (And.intro (And.intro rfl rfl) (And.intro (And.intro rfl rfl) (trivial))) rfl ?_
    refine WO_step 2 [0, 1, 2, 3] [3, 4, 5, 27] True ⟨[(3, .one (.e (.sl 1 k380 k381))), (4, .one (.e (.sl 2 0 x379.length))), (5, .one (.e (.sl 3 0 x383.length))), (27, B (!b387))], [.row .u8 x1 false, .row .nod x378 true, .row .rcd x379 true, .row .nod x383 true]⟩ (by kernel_rfl) trivial ?_
    refine WO_thru ⟨[(3, .one (.e (.sl 1 k380 k381))), (4, .one (.e (.sl 2 0 x379.length))), (5, .one (.e (.sl 3 0 x383.length))), (31, B ((!b387) || (decide (((x383.length : Nat) : Int) = 0))))], [.row .u8 x1 false, .row .nod x378 true, .row .rcd x379 true, .row .nod x383 true]⟩ ?_ ?_
    · refine WO_if 27 rfl (fun hb391 => ?_) (fun hb391 => ?_)
      · refine WO_step 4 [0, 1, 2, 3] [3, 4, 5, 31] True ⟨[(3, .one (.e (.sl 1 k380 k381))), (4, .one (.e (.sl 2 0 x379.length))), (5, .one (.e (.sl 3 0 x383.length))), (31, B true)], [.row .u8 x1 false, .row .nod x378 true, .row .rcd x379 true, .row .nod x383 true]⟩ (by kernel_rfl) trivial ?_
        exact WO_nil rfl ⟨rfl, by first | rfl | (rw [hb391]; first | done | rfl)⟩
      · refine WO_step 4 [0, 1, 2, 3] [3, 4, 5, 31] (True ∧ (True ∧ True)) ⟨[(3, .one (.e (.sl 1 k380 k381))), (4, .one (.e (.sl 2 0 x379.length))), (5, .one (.e (.sl 3 0 x383.length))), (31, B (decide (((x383.length : Nat) : Int) = 0)))], [.row .u8 x1 false, .row .nod x378 true, .row .rcd x379 true, .row .nod x383 true]⟩ (by kernel_rfl) ⟨trivial, trivial, trivial⟩ ?_
        exact WO_nil rfl ⟨rfl, by first | rfl | (rw [hb391]; first | done | rfl)⟩
    · refine thenS_n ?_
      refine iteO_e h (fun hb397 h => W_true rfl hb397 ?_) (fun hb397 h => W_false rfl hb397 ?_)
      · refine W_seq ?_
        refine W_region ?_
        refine WO_step 3 [0, 3, 1, 2] [32, 33, 34] True ⟨[(32, .one (.e (.sl 1 0 x383.length))), (33, .one (.e (.sl 2 k380 k381))), (34, .one (.e (.sl 3 0 x379.length)))], [.row .u8 x1 false, .row .nod x383 true, .row .nod x378 true, .row .rcd x379 true]⟩ (by kernel_rfl) trivial ?_
        refine bindO_e h (fun x398 hc399 h => ?_)
        refine WO_call [.view 0, .ro 3] Try.f21 rfl rfl rfl (by kernel_rfl) rfl rfl (by kernel_rfl) (spec_RedoLog_ok n ((x378.drop k380).take k381) x379 x398 hc399) (And.intro (And.intro rfl rfl) (trivial)) rfl ?_
        refine WO_sub [0, 1, 4] [32, 35] (st' := ⟨[(32, .one (.e (.sl 1 0 x383.length))), (35, .one (.e (.sl 2 0 x398.length)))], [.row .u8 x1 false, .row .nod x383 true, .row .nod x398 true]⟩) (by kernel_rfl) ?_
        refine bindO_e h (fun b400 hc401 h => ?_)
        refine WO_call [.ro 1, .ro 2] Try.f20 rfl rfl rfl (by kernel_rfl) rfl rfl (by kernel_rfl) (laws_equalNodes_ok n x383 x398 b400 hc401) (And.intro (And.intro rfl rfl) (And.intro (And.intro rfl rfl) (trivial))) rfl ?_
        refine WO_step 1 [0] [2] True ⟨[(2, B b400)], [.row .u8 x1 false]⟩ (by kernel_rfl) trivial ?_
        refine WO_nil rfl ?_
        refine thenS_n ?_
        refine W_ret ?_
        refine thenS_r ?_
        cases h
        exact ⟨[0], True, by kernel_rfl, trivial⟩
      · refine W_sub [0, 1, 2, 3] [3, 4, 5] (st' := ⟨[(3, .one (.e (.sl 1 k380 k381))), (4, .one (.e (.sl 2 0 x379.length))), (5, .one (.e (.sl 3 0 x383.length)))], [.row .u8 x1 false, .row .nod x378 true, .row .rcd x379 true, .row .nod x383 true]⟩) (by kernel_rfl) ?_
        refine W_skip ?_
        refine thenS_n ?_
        refine W_seq ?_
        refine W_region ?_
        refine WO_step 2 [0, 1, 2, 3, 4] [3, 4, 5, 6] True ⟨[(3, .one (.e (.sl 1 k380 k381))), (4, .one (.e (.sl 2 0 x379.length))), (5, .one (.e (.sl 3 0 x383.length))), (6, .one (.e (.sl 4 0 (([] : List Rcd).length))))], [.row .u8 x1 false, .row .nod x378 true, .row .rcd x379 true, .row .nod x383 true, .row .rcd ([] : List Rcd) true]⟩ (by kernel_rfl) trivial ?_
        refine WO_nil rfl ?_
        refine thenS_n ?_
        refine W_seq ?_
        refine W_seq ?_
        refine W_region ?_
        refine WO_step 1 [0, 1, 2, 3, 4] [3, 4, 5, 6, 7] True ⟨[(3, .one (.e (.sl 1 k380 k381))), (4, .one (.e (.sl 2 0 x379.length))), (5, .one (.e (.sl 3 0 x383.length))), (6, .one (.e (.sl 4 0 (([] : List Rcd).length)))), (7, I 0)], [.row .u8 x1 false, .row .nod x378 true, .row .rcd x379 true, .row .nod x383 true, .row .rcd ([] : List Rcd) true]⟩ (by kernel_rfl) trivial ?_
        refine WO_nil rfl ?_
        refine thenS_n ?_
        refine W_block ?_
        refine W_loop ?_
        refine bindO_e h (fun x616 hx616 h => ?_)
        refine WL_cut (laws_FnRedoLogLosers_L1_ok w X θ k380 k381 x379 x383 x1 x378 x616 n ([] : List Rcd) 0 hx616) ?_
        rintro _ _ ⟨rfl, rfl⟩
        refine blockS_y ?_
        refine thenS_n ?_
        refine W_seq ?_
        refine W_region ?_
        refine WO_step 2 [0, 1, 2, 3] [3, 5, 6, 86, 87] True ⟨[(3, .one (.e (.sl 1 k380 k381))), (5, .one (.e (.sl 2 0 x383.length))), (6, .one (.e (.sl 3 0 x616.length))), (86, .one (.e (.sl 1 k380 k381))), (87, .one (.e (.sl 3 0 x616.length)))], [.row .u8 x1 false, .row .nod x378 true, .row .nod x383 true, .row .rcd x616 true]⟩ (by kernel_rfl) trivial ?_
        refine bindO_e h (fun x741 hc742 h => ?_)
        refine WO_call [.view 0, .ro 3] Try.f19 rfl rfl rfl (by kernel_rfl) rfl rfl (by kernel_rfl) (impl_RedoLog_ok n ((x378.drop k380).take k381) x616 x741 hc742) (And.intro (And.intro rfl rfl) (trivial)) rfl ?_
        refine WO_step 1 [0, 1, 3, 4, 2] [3, 6, 88, 89] True ⟨[(3, .one (.e (.sl 1 k380 k381))), (6, .one (.e (.sl 2 0 x616.length))), (88, .one (.e (.sl 3 0 x741.length))), (89, .one (.e (.sl 4 0 x383.length)))], [.row .u8 x1 false, .row .nod x378 true, .row .rcd x616 true, .row .nod x741 true, .row .nod x383 true]⟩ (by kernel_rfl) trivial ?_
        refine bindO_e h (fun b743 hc744 h => ?_)
        refine WO_call [.ro 3, .ro 4] Try.f20 rfl rfl rfl (by kernel_rfl) rfl rfl (by kernel_rfl) (laws_equalNodes_ok n x741 x383 b743 hc744) (And.intro (And.intro rfl rfl) (And.intro (And.intro rfl rfl) (trivial))) rfl ?_
        refine WO_step 1 [0, 1, 2] [3, 6, 91] True ⟨[(3, .one (.e (.sl 1 k380 k381))), (6, .one (.e (.sl 2 0 x616.length))), (91, B b743)], [.row .u8 x1 false, .row .nod x378 true, .row .rcd x616 true]⟩ (by kernel_rfl) trivial ?_
        refine bindO_e h (fun b748 hv749 h => ?_)
        refine WO_thru ⟨[(2, B b748)], [.row .u8 x1 false]⟩ ?_ ?_
        · refine iteO_e hv749 (fun hb750 hv749 => WO_known 91 true rfl hb750 ?_) (fun hb750 hv749 => WO_known 91 false rfl hb750 ?_)
          · refine WO_step 2 [0, 1, 2] [91, 92, 93] True ⟨[(91, B true), (92, .one (.e (.sl 1 k380 k381))), (93, .one (.e (.sl 2 0 x616.length)))], [.row .u8 x1 false, .row .nod x378 true, .row .rcd x616 true]⟩ (by kernel_rfl) trivial ?_
            refine bindO_e hv749 (fun x751 hc752 hv749 => ?_)
            refine WO_call [.view 0, .ro 2] Try.f13 rfl rfl rfl (by kernel_rfl) rfl rfl (by kernel_rfl) (impl_LosersOf_ok n ((x378.drop k380).take k381) x616 x751 hc752) (And.intro (And.intro rfl rfl) (trivial)) rfl ?_
            refine WO_step 4 [0] [2] (True ∧ (True ∧ True)) ⟨[(2, B (decide (((x751.length : Nat) : Int) = 0)))], [.row .u8 x1 false]⟩ (by kernel_rfl) ⟨trivial, trivial, trivial⟩ ?_
            cases hv749
            exact WO_nil rfl ⟨rfl, rfl⟩
          · refine WO_step 7 [0] [2] True ⟨[(2, B false)], [.row .u8 x1 false]⟩ (by kernel_rfl) trivial ?_
            cases hv749
            exact WO_nil rfl ⟨rfl, rfl⟩
        · refine thenS_n ?_
          refine W_ret ?_
          cases h
          exact ⟨[0], True, by kernel_rfl, trivial⟩

/- spec.LosersOf -/
def spec_LosersOf_L2 (x2 : List Rcd) (x752 : List Int) (i753 : Int) (x1 : List Nod) : Nat → Bool → Int → Option (Bool)
| 0, _, _ => none
| n + 1, b1054, i1055 =>
 iteO (decide (i1055 < ((x2.length : Nat) : Int)))
 (bindO (iteO b1054
 (some true)
 (guardO (0 ≤ i1055 ∧ i1055 < ((x2.length : Nat) : Int)) <|
 iteO (decide (((x2.getD i1055.toNat drcd).who) = i753))
 (guardO (0 ≤ i1055 ∧ i1055 < ((x2.length : Nat) : Int)) <|
 iteO (!(x2.getD i1055.toNat drcd).fin)
 (bindO (spec_ended n x2 (w64 (i1055 + 1)) i753) fun b1126 =>
 some (!b1126))
 (some false))
 (some false))) fun b1119 =>
 spec_LosersOf_L2 x2 x752 i753 x1 n b1119 (w64 (i1055 + 1)))
 (some b1054)

theorem spec_LosersOf_L2_ok (w : World) (X : Nat → Prop) (θ : List Loc) (x2 : List Rcd) (x752 : List Int) (i753 : Int) (x1 : List Nod) (b1092 : Bool) : ∀ (n : Nat) (b1054 : Bool) (i1055 : Int), spec_LosersOf_L2 x2 x752 i753 x1 n b1054 i1055 = some b1092 → WL EE ⟨w, X, θ, 61, 2⟩ (subC [1, 1, 1, 0, 1, 4, 4, 1, 0, 4, 1, 0, 1, 4, 4] (bodyC Try.f15)) (fun (e : Exit) (s : St) => e = .exit 2 ∧ s = ⟨[(1, .one (.e (.sl 1 0 x2.length))), (5, .one (.e (.sl 2 0 x752.length))), (6, I i753), (7, B b1092)], [.row .nod x1 false, .row .rcd x2 false, .row .int x752 true]⟩) ⟨[(1, .one (.e (.sl 1 0 x2.length))), (5, .one (.e (.sl 2 0 x752.length))), (6, I i753), (7, B b1054), (8, I i1055)], [.row .nod x1 false, .row .rcd x2 false, .row .int x752 true]⟩ := by
  intro n
  induction n with
  | zero => intro _ _ h; exact none_e h
  | succ n ih =>
    intro b1054 i1055 h
    rw [spec_LosersOf_L2] at h
    refine WL_round ?_
    refine W_seq ?_
    refine W_seq ?_
    refine W_region ?_
    refine WO_step 4 [0, 1, 2] [1, 5, 6, 7, 8, 26] (True ∧ (True ∧ True)) ⟨[(1, .one (.e (.sl 1 0 x2.length))), (5, .one (.e (.sl 2 0 x752.length))), (6, I i753), (7, B b1054), (8, I i1055), (26, B (decide (i1055 < ((x2.length : Nat) : Int))))], [.row .nod x1 false, .row .rcd x2 false, .row .int x752 true]⟩ (by kernel_rfl) ⟨trivial, trivial, trivial⟩ ?_
    refine WO_nil rfl ?_
    refine thenS_n ?_
    refine iteO_e h (fun hb1095 h => W_true rfl hb1095 ?_) (fun hb1095 h => W_false rfl hb1095 ?_)
    · refine W_sub [0, 1, 2] [1, 5, 6, 7, 8] (st' := ⟨[(1, .one (.e (.sl 1 0 x2.length))), (5, .one (.e (.sl 2 0 x752.length))), (6, I i753), (7, B b1054), (8, I i1055)], [.row .nod x1 false, .row .rcd x2 false, .row .int x752 true]⟩) (by kernel_rfl) ?_
      refine W_skip ?_
      refine thenS_n ?_
      refine W_seq ?_
      refine W_block ?_
      refine W_region ?_
      refine WO_step 2 [0, 1, 2] [1, 5, 6, 8, 30] True ⟨[(1, .one (.e (.sl 1 0 x2.length))), (5, .one (.e (.sl 2 0 x752.length))), (6, I i753), (8, I i1055), (30, B b1054)], [.row .nod x1 false, .row .rcd x2 false, .row .int x752 true]⟩ (by kernel_rfl) trivial ?_
      refine bindO_e h (fun b1119 hv1120 h => ?_)
      refine WO_thru ⟨[(1, .one (.e (.sl 1 0 x2.length))), (5, .one (.e (.sl 2 0 x752.length))), (6, I i753), (7, B b1119), (8, I i1055)], [.row .nod x1 false, .row .rcd x2 false, .row .int x752 true]⟩ ?_ ?_
      · refine iteO_e hv1120 (fun hb1121 hv1120 => WO_known 30 true rfl hb1121 ?_) (fun hb1121 hv1120 => WO_known 30 false rfl hb1121 ?_)
        · refine WO_step 25 [0, 1, 2] [1, 5, 6, 7, 8] True ⟨[(1, .one (.e (.sl 1 0 x2.length))), (5, .one (.e (.sl 2 0 x752.length))), (6, I i753), (7, B true), (8, I i1055)], [.row .nod x1 false, .row .rcd x2 false, .row .int x752 true]⟩ (by kernel_rfl) trivial ?_
          cases hv1120
          exact WO_nil rfl ⟨rfl, rfl⟩
        · refine guardO_e hv1120 (fun hg1122 hv1120 => ?_)
          refine WO_step 8 [0, 1, 2] [1, 5, 6, 8, 30, 38] ((0 ≤ i1055 ∧ i1055 < ((x2.length : Nat) : Int)) ∧ (True ∧ (True ∧ True))) ⟨[(1, .one (.e (.sl 1 0 x2.length))), (5, .one (.e (.sl 2 0 x752.length))), (6, I i753), (8, I i1055), (30, B false), (38, B (decide (((x2.getD i1055.toNat drcd).who) = i753)))], [.row .nod x1 false, .row .rcd x2 false, .row .int x752 true]⟩ (by kernel_rfl) ⟨hg1122, trivial, trivial, trivial⟩ ?_
          refine iteO_e hv1120 (fun hb1123 hv1120 => WO_known 38 true rfl hb1123 ?_) (fun hb1123 hv1120 => WO_known 38 false rfl hb1123 ?_)
          · refine guardO_e hv1120 (fun hg1124 hv1120 => ?_)
            refine WO_step 8 [0, 1, 2] [1, 5, 6, 8, 30, 46] ((0 ≤ i1055 ∧ i1055 < ((x2.length : Nat) : Int)) ∧ (True ∧ True)) ⟨[(1, .one (.e (.sl 1 0 x2.length))), (5, .one (.e (.sl 2 0 x752.length))), (6, I i753), (8, I i1055), (30, B false), (46, B (!(x2.getD i1055.toNat drcd).fin))], [.row .nod x1 false, .row .rcd x2 false, .row .int x752 true]⟩ (by kernel_rfl) ⟨hg1124, trivial, trivial⟩ ?_
            refine iteO_e hv1120 (fun hb1125 hv1120 => WO_known 46 true rfl hb1125 ?_) (fun hb1125 hv1120 => WO_known 46 false rfl hb1125 ?_)
            · refine WO_step 4 [0, 1, 2] [1, 5, 6, 8, 30, 46, 47, 49, 50] (True ∧ True) ⟨[(1, .one (.e (.sl 1 0 x2.length))), (5, .one (.e (.sl 2 0 x752.length))), (6, I i753), (8, I i1055), (30, B false), (46, B true), (47, .one (.e (.sl 1 0 x2.length))), (49, I (w64 (i1055 + 1))), (50, I i753)], [.row .nod x1 false, .row .rcd x2 false, .row .int x752 true]⟩ (by kernel_rfl) ⟨trivial, trivial⟩ ?_
              refine bindO_e hv1120 (fun b1126 hc1127 hv1120 => ?_)
              refine WO_call [.ro 1] Try.f44 rfl rfl rfl (by kernel_rfl) rfl rfl (by kernel_rfl) (spec_ended_ok n x2 (w64 (i1055 + 1)) i753 b1126 hc1127) (And.intro (And.intro rfl rfl) (trivial)) rfl ?_
              refine WO_step 4 [0, 1, 2] [1, 5, 6, 7, 8] True ⟨[(1, .one (.e (.sl 1 0 x2.length))), (5, .one (.e (.sl 2 0 x752.length))), (6, I i753), (7, B (!b1126)), (8, I i1055)], [.row .nod x1 false, .row .rcd x2 false, .row .int x752 true]⟩ (by kernel_rfl) trivial ?_
              cases hv1120
              exact WO_nil rfl ⟨rfl, rfl⟩
            · refine WO_step 9 [0, 1, 2] [1, 5, 6, 7, 8] True ⟨[(1, .one (.e (.sl 1 0 x2.length))), (5, .one (.e (.sl 2 0 x752.length))), (6, I i753), (7, B false), (8, I i1055)], [.row .nod x1 false, .row .rcd x2 false, .row .int x752 true]⟩ (by kernel_rfl) trivial ?_
              cases hv1120
              exact WO_nil rfl ⟨rfl, rfl⟩
          · refine WO_step 17 [0, 1, 2] [1, 5, 6, 7, 8] True ⟨[(1, .one (.e (.sl 1 0 x2.length))), (5, .one (.e (.sl 2 0 x752.length))), (6, I i753), (7, B false), (8, I i1055)], [.row .nod x1 false, .row .rcd x2 false, .row .int x752 true]⟩ (by kernel_rfl) trivial ?_
            cases hv1120
            exact WO_nil rfl ⟨rfl, rfl⟩
      · refine blockS_n ?_
        refine thenS_n ?_
        refine W_region ?_
        refine WO_step 3 [0, 1, 2] [1, 5, 6, 7, 8] (True ∧ True) ⟨[(1, .one (.e (.sl 1 0 x2.length))), (5, .one (.e (.sl 2 0 x752.length))), (6, I i753), (7, B b1119), (8, I (w64 (i1055 + 1)))], [.row .nod x1 false, .row .rcd x2 false, .row .int x752 true]⟩ (by kernel_rfl) ⟨trivial, trivial⟩ ?_
        refine WO_nil rfl ?_
        refine thenS_n ?_
        exact ih _ _ h
    · refine W_sub [0, 1, 2] [1, 5, 6, 7] (st' := ⟨[(1, .one (.e (.sl 1 0 x2.length))), (5, .one (.e (.sl 2 0 x752.length))), (6, I i753), (7, B b1054)], [.row .nod x1 false, .row .rcd x2 false, .row .int x752 true]⟩) (by kernel_rfl) ?_
      refine W_exit ?_
      refine thenS_e ?_
      refine thenS_e ?_
      cases h
      exact And.intro rfl rfl

def spec_LosersOf_L1 (x2 : List Rcd) (x1 : List Nod) : Nat → (List Int) → Int → Option ((List Int))
| 0, _, _ => none
| n + 1, x752, i753 =>
 iteO (decide (i753 < 4))
 (bindO (spec_LosersOf_L2 x2 x752 i753 x1 n false 0) fun b1092 =>
 bindO (iteO b1092
 (guardO (0 = 0 ∧ x752.length = x752.length ∧ x752.length + (([i753].drop 0).take ([i753].length)).length ≤ 1099511627776) <|
 some (x752 ++ (([i753].drop 0).take ([i753].length))))
 (some x752)) fun x1131 =>
 spec_LosersOf_L1 x2 x1 n x1131 (w64 (i753 + 1)))
 (some x752)

theorem spec_LosersOf_L1_ok (w : World) (X : Nat → Prop) (θ : List Loc) (x2 : List Rcd) (x1 : List Nod) (x926 : (List Int)) : ∀ (n : Nat) (x752 : List Int) (i753 : Int), spec_LosersOf_L1 x2 x1 n x752 i753 = some x926 → WL EE ⟨w, X, θ, 61, 2⟩ (subC [1, 1, 1, 0, 1, 4, 4] (bodyC Try.f15)) (fun (e : Exit) (s : St) => e = .exit 0 ∧ s = ⟨[(5, .one (.e (.sl 2 0 x926.length)))], [.row .nod x1 false, .row .rcd x2 false, .row .int x926 true]⟩) ⟨[(1, .one (.e (.sl 1 0 x2.length))), (5, .one (.e (.sl 2 0 x752.length))), (6, I i753)], [.row .nod x1 false, .row .rcd x2 false, .row .int x752 true]⟩ := by
  intro n
  induction n with
  | zero => intro _ _ h; exact none_e h
  | succ n ih =>
    intro x752 i753 h
    rw [spec_LosersOf_L1] at h
    refine WL_round ?_
    refine W_seq ?_
    refine W_seq ?_
    refine W_region ?_
    refine WO_step 2 [0, 1, 2] [1, 5, 6, 20] (True ∧ True) ⟨[(1, .one (.e (.sl 1 0 x2.length))), (5, .one (.e (.sl 2 0 x752.length))), (6, I i753), (20, B (decide (i753 < 4)))], [.row .nod x1 false, .row .rcd x2 false, .row .int x752 true]⟩ (by kernel_rfl) ⟨trivial, trivial⟩ ?_
    refine WO_nil rfl ?_
    refine thenS_n ?_
    refine iteO_e h (fun hb929 h => W_true rfl hb929 ?_) (fun hb929 h => W_false rfl hb929 ?_)
    · refine W_sub [0, 1, 2] [1, 5, 6] (st' := ⟨[(1, .one (.e (.sl 1 0 x2.length))), (5, .one (.e (.sl 2 0 x752.length))), (6, I i753)], [.row .nod x1 false, .row .rcd x2 false, .row .int x752 true]⟩) (by kernel_rfl) ?_
      refine W_skip ?_
      refine thenS_n ?_
      refine W_seq ?_
      refine W_block ?_
      refine W_seq ?_
      refine W_region ?_
      refine WO_step 1 [0, 1, 2] [1, 5, 6, 7] True ⟨[(1, .one (.e (.sl 1 0 x2.length))), (5, .one (.e (.sl 2 0 x752.length))), (6, I i753), (7, B false)], [.row .nod x1 false, .row .rcd x2 false, .row .int x752 true]⟩ (by kernel_rfl) trivial ?_
      refine WO_nil rfl ?_
      refine thenS_n ?_
      refine W_seq ?_
      refine W_seq ?_
      refine W_region ?_
      refine WO_step 1 [0, 1, 2] [1, 5, 6, 7, 8] True ⟨[(1, .one (.e (.sl 1 0 x2.length))), (5, .one (.e (.sl 2 0 x752.length))), (6, I i753), (7, B false), (8, I 0)], [.row .nod x1 false, .row .rcd x2 false, .row .int x752 true]⟩ (by kernel_rfl) trivial ?_
      refine WO_nil rfl ?_
      refine thenS_n ?_
      refine W_block ?_
      refine W_loop ?_
      refine bindO_e h (fun b1092 hb1092 h => ?_)
      refine WL_cut (spec_LosersOf_L2_ok w X θ x2 x752 i753 x1 b1092 n false 0 hb1092) ?_
      rintro _ _ ⟨rfl, rfl⟩
      refine blockS_y ?_
      refine thenS_n ?_
      refine W_seq ?_
      refine W_region ?_
      refine WO_step 1 [0, 1, 2] [1, 5, 6, 55] True ⟨[(1, .one (.e (.sl 1 0 x2.length))), (5, .one (.e (.sl 2 0 x752.length))), (6, I i753), (55, B b1092)], [.row .nod x1 false, .row .rcd x2 false, .row .int x752 true]⟩ (by kernel_rfl) trivial ?_
      refine WO_nil rfl ?_
      refine thenS_n ?_
      refine bindO_e h (fun x1131 hx1131 h => ?_)
      refine W_cut (Q' := fun (e : Exit) (s : St) => e = .normal ∧ s = ⟨[(1, .one (.e (.sl 1 0 x2.length))), (5, .one (.e (.sl 2 0 x1131.length))), (6, I i753)], [.row .nod x1 false, .row .rcd x2 false, .row .int x1131 true]⟩) ?_ ?_
      · refine iteO_e hx1131 (fun hb1133 hx1131 => W_true rfl hb1133 ?_) (fun hb1133 hx1131 => W_false rfl hb1133 ?_)
        · refine W_region ?_
          refine guardO_e hx1131 (fun hg1134 hx1131 => ?_)
          refine WO_step 5 [0, 1, 4] [1, 5, 6] ((0 = 0 ∧ x752.length = x752.length ∧ x752.length + (([i753].drop 0).take ([i753].length)).length ≤ 1099511627776) ∧ True) ⟨[(1, .one (.e (.sl 1 0 x2.length))), (5, .one (.e (.sl 2 0 ((x752 ++ (([i753].drop 0).take ([i753].length))).length)))), (6, I i753)], [.row .nod x1 false, .row .rcd x2 false, .row .int (x752 ++ (([i753].drop 0).take ([i753].length))) true]⟩ (by kernel_rfl) ⟨hg1134, trivial⟩ ?_
          refine WO_nil rfl ?_
          cases hx1131
          exact And.intro rfl rfl
        · refine W_sub [0, 1, 2] [1, 5, 6] (st' := ⟨[(1, .one (.e (.sl 1 0 x2.length))), (5, .one (.e (.sl 2 0 x752.length))), (6, I i753)], [.row .nod x1 false, .row .rcd x2 false, .row .int x752 true]⟩) (by kernel_rfl) ?_
          refine W_skip ?_
          cases hx1131
          exact And.intro rfl rfl
      · rintro _ _ ⟨rfl, rfl⟩
        refine blockS_n ?_
        refine thenS_n ?_
        refine W_region ?_
        refine WO_step 3 [0, 1, 2] [1, 5, 6] (True ∧ True) ⟨[(1, .one (.e (.sl 1 0 x2.length))), (5, .one (.e (.sl 2 0 x1131.length))), (6, I (w64 (i753 + 1)))], [.row .nod x1 false, .row .rcd x2 false, .row .int x1131 true]⟩ (by kernel_rfl) ⟨trivial, trivial⟩ ?_
        refine WO_nil rfl ?_
        refine thenS_n ?_
        exact ih _ _ h
    · refine W_sub [0, 1, 2] [5] (st' := ⟨[(5, .one (.e (.sl 2 0 x752.length)))], [.row .nod x1 false, .row .rcd x2 false, .row .int x752 true]⟩) (by kernel_rfl) ?_
      refine W_exit ?_
      refine thenS_e ?_
      refine thenS_e ?_
      cases h
      exact And.intro rfl rfl

def spec_LosersOf (n : Nat) (x1 : List Nod) (x2 : List Rcd) : Option ((List Int)) :=
 bindO (spec_validTree n x1) fun b564 =>
 bindO (iteO (!b564)
 (some true)
 (bindO (spec_validLog n x1 x2) fun b572 =>
 some (!b572))) fun b569 =>
 iteO b569
 (some ([] : List Int))
 (bindO (spec_LosersOf_L1 x2 x1 n ([] : List Int) 0) fun x926 =>
 some x926)

theorem spec_LosersOf_ok (n : Nat) (x1 : List Nod) (x2 : List Rcd) (x563 : List Int) (h : spec_LosersOf n x1 x2 = some x563) : FOk EE 15 [.one (.e (.sl 0 0 x1.length)), .one (.e (.sl 1 0 x2.length))] [.row .nod x1 false, .row .rcd x2 false] (.one (.e (.sl 2 0 x563.length))) [.row .nod x1 false, .row .rcd x2 false, .row .int x563 true] := by
  unfold spec_LosersOf at h
  refine FOk_of_W 61 2 Try.func15 rfl rfl (Nat.le_of_ble_eq_true rfl) rfl (fun w X θ => ?_)
  refine W_seq ?_
  refine W_region ?_
  refine WO_step 1 [0, 1] [0, 1] True ⟨[(0, .one (.e (.sl 0 0 x1.length))), (1, .one (.e (.sl 1 0 x2.length)))], [.row .nod x1 false, .row .rcd x2 false]⟩ (by kernel_rfl) trivial ?_
  refine WO_nil rfl ?_
  refine thenS_n ?_
  refine W_seq ?_
  refine W_region ?_
  refine WO_step 2 [0, 1, 2] [0, 1, 5] True ⟨[(0, .one (.e (.sl 0 0 x1.length))), (1, .one (.e (.sl 1 0 x2.length))), (5, .one (.e (.sl 2 0 (([] : List Int).length))))], [.row .nod x1 false, .row .rcd x2 false, .row .int ([] : List Int) true]⟩ (by kernel_rfl) trivial ?_
  refine WO_nil rfl ?_
  refine thenS_n ?_
  refine W_seq ?_
  refine W_seq ?_
  refine W_region ?_
  refine WO_step 1 [0, 1, 2] [0, 1, 5, 10] True ⟨[(0, .one (.e (.sl 0 0 x1.length))), (1, .one (.e (.sl 1 0 x2.length))), (5, .one (.e (.sl 2 0 (([] : List Int).length)))), (10, .one (.e (.sl 0 0 x1.length)))], [.row .nod x1 false, .row .rcd x2 false, .row .int ([] : List Int) true]⟩ (by kernel_rfl) trivial ?_
  refine bindO_e h (fun b564 hc565 h => ?_)
  refine WO_call [.ro 0] Try.f42 rfl rfl rfl (by kernel_rfl) rfl rfl (by kernel_rfl) (spec_validTree_ok n x1 b564 hc565) (And.intro (And.intro rfl rfl) (trivial)) rfl ?_
  refine WO_step 2 [0, 1, 2] [0, 1, 5, 13] True ⟨[(0, .one (.e (.sl 0 0 x1.length))), (1, .one (.e (.sl 1 0 x2.length))), (5, .one (.e (.sl 2 0 (([] : List Int).length)))), (13, B (!b564))], [.row .nod x1 false, .row .rcd x2 false, .row .int ([] : List Int) true]⟩ (by kernel_rfl) trivial ?_
  refine bindO_e h (fun b569 hv570 h => ?_)
  refine WO_thru ⟨[(1, .one (.e (.sl 1 0 x2.length))), (5, .one (.e (.sl 2 0 (([] : List Int).length)))), (18, B b569)], [.row .nod x1 false, .row .rcd x2 false, .row .int ([] : List Int) true]⟩ ?_ ?_
  · refine iteO_e hv570 (fun hb571 hv570 => WO_known 13 true rfl hb571 ?_) (fun hb571 hv570 => WO_known 13 false rfl hb571 ?_)
    · refine WO_step 5 [0, 1, 2] [1, 5, 18] True ⟨[(1, .one (.e (.sl 1 0 x2.length))), (5, .one (.e (.sl 2 0 (([] : List Int).length)))), (18, B true)], [.row .nod x1 false, .row .rcd x2 false, .row .int ([] : List Int) true]⟩ (by kernel_rfl) trivial ?_
      cases hv570
      exact WO_nil rfl ⟨rfl, rfl⟩
    · refine WO_step 2 [0, 1, 2] [1, 5, 13, 14, 15] True ⟨[(1, .one (.e (.sl 1 0 x2.length))), (5, .one (.e (.sl 2 0 (([] : List Int).length)))), (13, B false), (14, .one (.e (.sl 0 0 x1.length))), (15, .one (.e (.sl 1 0 x2.length)))], [.row .nod x1 false, .row .rcd x2 false, .row .int ([] : List Int) true]⟩ (by kernel_rfl) trivial ?_
      refine bindO_e hv570 (fun b572 hc573 hv570 => ?_)
      refine WO_call [.ro 0, .ro 1] Try.f43 rfl rfl rfl (by kernel_rfl) rfl rfl (by kernel_rfl) (spec_validLog_ok n x1 x2 b572 hc573) (And.intro (And.intro rfl rfl) (And.intro (And.intro rfl rfl) (trivial))) rfl ?_
      refine WO_step 2 [0, 1, 2] [1, 5, 18] True ⟨[(1, .one (.e (.sl 1 0 x2.length))), (5, .one (.e (.sl 2 0 (([] : List Int).length)))), (18, B (!b572))], [.row .nod x1 false, .row .rcd x2 false, .row .int ([] : List Int) true]⟩ (by kernel_rfl) trivial ?_
      cases hv570
      exact WO_nil rfl ⟨rfl, rfl⟩
  · refine thenS_n ?_
    refine iteO_e h (fun hb575 h => W_true rfl hb575 ?_) (fun hb575 h => W_false rfl hb575 ?_)
    · refine W_seq ?_
      refine W_region ?_
      refine WO_step 1 [0, 1] [4] True ⟨[(4, .one (.e (.nsl)))], [.row .nod x1 false, .row .rcd x2 false]⟩ (by kernel_rfl) trivial ?_
      refine WO_nilrow 4 .int rfl ?_
      refine WO_sub [0, 1, 2] [4] (st' := ⟨[(4, .one (.e (.sl 2 0 (([] : List Int).length))))], [.row .nod x1 false, .row .rcd x2 false, .row .int ([] : List Int) true]⟩) (by kernel_rfl) ?_
      refine WO_nil rfl ?_
      refine thenS_n ?_
      refine W_ret ?_
      refine thenS_r ?_
      cases h
      exact ⟨[0, 1, 2], True, by kernel_rfl, trivial⟩
    · refine W_sub [0, 1, 2] [1, 5] (st' := ⟨[(1, .one (.e (.sl 1 0 x2.length))), (5, .one (.e (.sl 2 0 (([] : List Int).length))))], [.row .nod x1 false, .row .rcd x2 false, .row .int ([] : List Int) true]⟩) (by kernel_rfl) ?_
      refine W_skip ?_
      refine thenS_n ?_
      refine W_seq ?_
      refine W_seq ?_
      refine W_region ?_
      refine WO_step 1 [0, 1, 2] [1, 5, 6] True ⟨[(1, .one (.e (.sl 1 0 x2.length))), (5, .one (.e (.sl 2 0 (([] : List Int).length)))), (6, I 0)], [.row .nod x1 false, .row .rcd x2 false, .row .int ([] : List Int) true]⟩ (by kernel_rfl) trivial ?_
      refine WO_nil rfl ?_
      refine thenS_n ?_
      refine W_block ?_
      refine W_loop ?_
      refine bindO_e h (fun x926 hx926 h => ?_)
      refine WL_cut (spec_LosersOf_L1_ok w X θ x2 x1 x926 n ([] : List Int) 0 hx926) ?_
      rintro _ _ ⟨rfl, rfl⟩
      refine blockS_y ?_
      refine thenS_n ?_
      refine W_seq ?_
      refine W_region ?_
      refine WO_step 2 [0, 1, 2] [4] True ⟨[(4, .one (.e (.sl 2 0 x926.length)))], [.row .nod x1 false, .row .rcd x2 false, .row .int x926 true]⟩ (by kernel_rfl) trivial ?_
      refine WO_nil rfl ?_
      refine thenS_n ?_
      refine W_ret ?_
      cases h
      exact ⟨[0, 1, 2], True, by kernel_rfl, trivial⟩

end Go.Proofs.Ytdkmgkeaebcobaa

import Derived.Test.YtgihnmaaiibmeaaTT1
namespace Go.Proofs.Ytgihnmaaiibmeaa
open Go
set_option linter.unusedVariables false
/- laws.FnMayCommitMore -/
def laws_FnMayCommitMore (n : Nat) (x1 : List Int) : Option (Bool) :=
 iteO (decide (1048576 < ((x1.length : Nat) : Int)))
 (some true)
 (bindO (spec_DrawMayCommit n x1) fun (x29, x30, i31) =>
 bindO (impl_MayCommit n x29 i31 x30) fun b33 =>
 bindO (spec_MayCommit n x29 i31 x30) fun b35 =>
 iteO ((!(b33 == b35)) || (!b33))
 (bindO (spec_MayCommit n x29 i31 x30) fun b44 =>
 some (b33 == b44))
 (guardO (0 = 0 ∧ ([] : List Int).length = ([] : List Int).length ∧ ([] : List Int).length + ((x30.drop 0).take x30.length).length ≤ 1099511627776) <|
 guardO (0 = 0 ∧ (([] : List Int) ++ ((x30.drop 0).take x30.length)).length = (([] : List Int) ++ ((x30.drop 0).take x30.length)).length ∧ (([] : List Int) ++ ((x30.drop 0).take x30.length)).length + (([2].drop 0).take ([2].length)).length ≤ 1099511627776) <|
 bindO (impl_MayCommit n x29 i31 ((([] : List Int) ++ ((x30.drop 0).take x30.length)) ++ (([2].drop 0).take ([2].length)))) fun b48 =>
 some b48))

theorem laws_FnMayCommitMore_ok (n : Nat) (x1 : List Int) (b26 : Bool) (h : laws_FnMayCommitMore n x1 = some b26) : FOk EE 7 [.one (.e (.sl 0 0 x1.length))] [.row .u8 x1 false] (B b26) [.row .u8 x1 false] := by
  unfold laws_FnMayCommitMore at h
  refine FOk_of_W 44 1 Try.func7 rfl rfl (Nat.le_of_ble_eq_true rfl) rfl (fun w X θ => ?_)
  refine W_seq ?_
  refine W_region ?_
  refine WO_step 1 [0] [0] True ⟨[(0, .one (.e (.sl 0 0 x1.length)))], [.row .u8 x1 false]⟩ (by kernel_rfl) trivial ?_
  refine WO_nil rfl ?_
  refine thenS_n ?_
  refine W_seq ?_
  refine W_seq ?_
  refine W_region ?_
  refine WO_step 3 [0] [0, 9] (True ∧ (True ∧ True)) ⟨[(0, .one (.e (.sl 0 0 x1.length))), (9, B (decide (1048576 < ((x1.length : Nat) : Int))))], [.row .u8 x1 false]⟩ (by kernel_rfl) ⟨trivial, trivial, trivial⟩ ?_
  refine WO_nil rfl ?_
  refine thenS_n ?_
  refine iteO_e h (fun hb28 h => W_true rfl hb28 ?_) (fun hb28 h => W_false rfl hb28 ?_)
  · refine W_seq ?_
    refine W_region ?_
    refine WO_step 1 [0] [2] True ⟨[(2, B true)], [.row .u8 x1 false]⟩ (by kernel_rfl) trivial ?_
    refine WO_nil rfl ?_
    refine thenS_n ?_
    refine W_ret ?_
    refine thenS_r ?_
    cases h
    exact ⟨[0], True, by kernel_rfl, trivial⟩
  · refine W_sub [0] [0] (st' := ⟨[(0, .one (.e (.sl 0 0 x1.length)))], [.row .u8 x1 false]⟩) (by kernel_rfl) ?_
    refine W_skip ?_
    refine thenS_n ?_
    refine W_seq ?_
    refine W_region ?_
    refine WO_step 1 [0] [11] True ⟨[(11, .one (.e (.sl 0 0 x1.length)))], [.row .u8 x1 false]⟩ (by kernel_rfl) trivial ?_
    refine bindO_e h (fun v50 hc32 h => ?_)
    obtain ⟨x29, x30, i31⟩ := v50
    refine WO_call [.ro 0] Try.f21 rfl rfl rfl (by kernel_rfl) rfl rfl (by kernel_rfl) (spec_DrawMayCommit_ok n x1 x29 x30 i31 hc32) (And.intro (And.intro rfl rfl) (trivial)) rfl ?_
    refine WO_step 7 [0, 1, 2] [3, 4, 5] True ⟨[(3, .one (.e (.sl 1 0 x29.length))), (4, I i31), (5, .one (.e (.sl 2 0 x30.length)))], [.row .u8 x1 false, .row .acc x29 true, .row .int x30 true]⟩ (by kernel_rfl) trivial ?_
    refine WO_nil rfl ?_
    refine thenS_n ?_
    refine W_seq ?_
    refine W_region ?_
    refine WO_step 3 [0, 1, 2] [3, 4, 5, 16, 17, 18] True ⟨[(3, .one (.e (.sl 1 0 x29.length))), (4, I i31), (5, .one (.e (.sl 2 0 x30.length))), (16, .one (.e (.sl 1 0 x29.length))), (17, I i31), (18, .one (.e (.sl 2 0 x30.length)))], [.row .u8 x1 false, .row .acc x29 true, .row .int x30 true]⟩ (by kernel_rfl) trivial ?_
    refine bindO_e h (fun b33 hc34 h => ?_)
    refine WO_call [.ro 1, .ro 2] Try.f22 rfl rfl rfl (by kernel_rfl) rfl rfl (by kernel_rfl) (impl_MayCommit_ok n x29 i31 x30 b33 hc34) (And.intro (And.intro rfl rfl) (And.intro (And.intro rfl rfl) (trivial))) rfl ?_
    refine WO_step 1 [0, 1, 2] [3, 4, 5, 6] True ⟨[(3, .one (.e (.sl 1 0 x29.length))), (4, I i31), (5, .one (.e (.sl 2 0 x30.length))), (6, B b33)], [.row .u8 x1 false, .row .acc x29 true, .row .int x30 true]⟩ (by kernel_rfl) trivial ?_
    refine WO_nil rfl ?_
    refine thenS_n ?_
    refine W_seq ?_
    refine W_seq ?_
    refine W_region ?_
    refine WO_step 4 [0, 1, 2] [3, 4, 5, 6, 20, 21, 22, 23] True ⟨[(3, .one (.e (.sl 1 0 x29.length))), (4, I i31), (5, .one (.e (.sl 2 0 x30.length))), (6, B b33), (20, B b33), (21, .one (.e (.sl 1 0 x29.length))), (22, I i31), (23, .one (.e (.sl 2 0 x30.length)))], [.row .u8 x1 false, .row .acc x29 true, .row .int x30 true]⟩ (by kernel_rfl) trivial ?_
    refine bindO_e h (fun b35 hc36 h => ?_)
    refine WO_call [.ro 1, .ro 2] Try.f23 rfl rfl rfl (by kernel_rfl) rfl rfl (by kernel_rfl) (spec_MayCommit_ok n x29 i31 x30 b35 hc36) (And.intro (And.intro rfl rfl) (And.intro (And.intro rfl rfl) (trivial))) rfl ?_
    refine WO_step 2 [0, 1, 2] [3, 4, 5, 6, 26] (True ∧ True) ⟨[(3, .one (.e (.sl 1 0 x29.length))), (4, I i31), (5, .one (.e (.sl 2 0 x30.length))), (6, B b33), (26, B (!(b33 == b35)))], [.row .u8 x1 false, .row .acc x29 true, .row .int x30 true]⟩ (by kernel_rfl) ⟨trivial, trivial⟩ ?_
    refine WO_thru ⟨[(3, .one (.e (.sl 1 0 x29.length))), (4, I i31), (5, .one (.e (.sl 2 0 x30.length))), (6, B b33), (29, B ((!(b33 == b35)) || (!b33)))], [.row .u8 x1 false, .row .acc x29 true, .row .int x30 true]⟩ ?_ ?_
    · refine WO_if 26 rfl (fun hb39 => ?_) (fun hb39 => ?_)
      · refine WO_step 3 [0, 1, 2] [3, 4, 5, 6, 29] True ⟨[(3, .one (.e (.sl 1 0 x29.length))), (4, I i31), (5, .one (.e (.sl 2 0 x30.length))), (6, B b33), (29, B true)], [.row .u8 x1 false, .row .acc x29 true, .row .int x30 true]⟩ (by kernel_rfl) trivial ?_
        exact WO_nil rfl ⟨rfl, by first | rfl | (rw [hb39]; first | done | rfl)⟩
      · refine WO_step 3 [0, 1, 2] [3, 4, 5, 6, 29] True ⟨[(3, .one (.e (.sl 1 0 x29.length))), (4, I i31), (5, .one (.e (.sl 2 0 x30.length))), (6, B b33), (29, B (!b33))], [.row .u8 x1 false, .row .acc x29 true, .row .int x30 true]⟩ (by kernel_rfl) trivial ?_
        exact WO_nil rfl ⟨rfl, by first | rfl | (rw [hb39]; first | done | rfl)⟩
    · refine thenS_n ?_
      refine iteO_e h (fun hb43 h => W_true rfl hb43 ?_) (fun hb43 h => W_false rfl hb43 ?_)
      · refine W_seq ?_
        refine W_region ?_
        refine WO_step 4 [0, 1, 2] [30, 31, 32, 33] True ⟨[(30, B b33), (31, .one (.e (.sl 1 0 x29.length))), (32, I i31), (33, .one (.e (.sl 2 0 x30.length)))], [.row .u8 x1 false, .row .acc x29 true, .row .int x30 true]⟩ (by kernel_rfl) trivial ?_
        refine bindO_e h (fun b44 hc45 h => ?_)
        refine WO_call [.ro 1, .ro 2] Try.f23 rfl rfl rfl (by kernel_rfl) rfl rfl (by kernel_rfl) (spec_MayCommit_ok n x29 i31 x30 b44 hc45) (And.intro (And.intro rfl rfl) (And.intro (And.intro rfl rfl) (trivial))) rfl ?_
        refine WO_step 2 [0] [2] (True ∧ True) ⟨[(2, B (b33 == b44))], [.row .u8 x1 false]⟩ (by kernel_rfl) ⟨trivial, trivial⟩ ?_
        refine WO_nil rfl ?_
        refine thenS_n ?_
        refine W_ret ?_
        refine thenS_r ?_
        cases h
        exact ⟨[0], True, by kernel_rfl, trivial⟩
      · refine W_sub [0, 1, 2] [3, 4, 5] (st' := ⟨[(3, .one (.e (.sl 1 0 x29.length))), (4, I i31), (5, .one (.e (.sl 2 0 x30.length)))], [.row .u8 x1 false, .row .acc x29 true, .row .int x30 true]⟩) (by kernel_rfl) ?_
        refine W_skip ?_
        refine thenS_n ?_
        refine W_seq ?_
        refine W_region ?_
        refine guardO_e h (fun hg46 h => ?_)
        refine guardO_e h (fun hg47 h => ?_)
        refine WO_step 7 [0, 1, 6] [36, 37, 42] ((0 = 0 ∧ ([] : List Int).length = ([] : List Int).length ∧ ([] : List Int).length + ((x30.drop 0).take x30.length).length ≤ 1099511627776) ∧ ((0 = 0 ∧ (([] : List Int) ++ ((x30.drop 0).take x30.length)).length = (([] : List Int) ++ ((x30.drop 0).take x30.length)).length ∧ (([] : List Int) ++ ((x30.drop 0).take x30.length)).length + (([2].drop 0).take ([2].length)).length ≤ 1099511627776) ∧ True)) ⟨[(36, .one (.e (.sl 1 0 x29.length))), (37, I i31), (42, .one (.e (.sl 2 0 (((([] : List Int) ++ ((x30.drop 0).take x30.length)) ++ (([2].drop 0).take ([2].length))).length))))], [.row .u8 x1 false, .row .acc x29 true, .row .int ((([] : List Int) ++ ((x30.drop 0).take x30.length)) ++ (([2].drop 0).take ([2].length))) true]⟩ (by kernel_rfl) ⟨hg46, hg47, trivial⟩ ?_
        refine bindO_e h (fun b48 hc49 h => ?_)
        refine WO_call [.ro 1, .ro 2] Try.f22 rfl rfl rfl (by kernel_rfl) rfl rfl (by kernel_rfl) (impl_MayCommit_ok n x29 i31 ((([] : List Int) ++ ((x30.drop 0).take x30.length)) ++ (([2].drop 0).take ([2].length))) b48 hc49) (And.intro (And.intro rfl rfl) (And.intro (And.intro rfl rfl) (trivial))) rfl ?_
        refine WO_step 1 [0] [2] True ⟨[(2, B b48)], [.row .u8 x1 false]⟩ (by kernel_rfl) trivial ?_
        refine WO_nil rfl ?_
        refine thenS_n ?_
        refine W_ret ?_
        cases h
        exact ⟨[0], True, by kernel_rfl, trivial⟩

/- laws.szAccessS -/
def laws_szAccessS (x1 : List Acc) (i2 : Int) : Option (Int) :=
 iteO (decide ((w64 (i2 - ((x1.length : Nat) : Int))) < 0))
 (some (-1))
 (some (w64 (i2 - ((x1.length : Nat) : Int))))

theorem laws_szAccessS_ok (x1 : List Acc) (i2 : Int) (i5 : Int) (h : laws_szAccessS x1 i2 = some i5) : FOk EE 24 [.one (.e (.sl 0 0 x1.length)), I i2] [.row .acc x1 false] (I i5) [.row .acc x1 false] := by
  unfold laws_szAccessS at h
  refine FOk_of_W 12 1 Try.func24 rfl rfl (Nat.le_of_ble_eq_true rfl) rfl (fun w X θ => ?_)
  refine W_seq ?_
  refine W_region ?_
  refine WO_step 1 [0] [0, 1] True ⟨[(0, .one (.e (.sl 0 0 x1.length))), (1, I i2)], [.row .acc x1 false]⟩ (by kernel_rfl) trivial ?_
  refine WO_nil rfl ?_
  refine thenS_n ?_
  refine W_seq ?_
  refine W_region ?_
  refine WO_step 5 [0] [1] (True ∧ (True ∧ True)) ⟨[(1, I (w64 (i2 - ((x1.length : Nat) : Int))))], [.row .acc x1 false]⟩ (by kernel_rfl) ⟨trivial, trivial, trivial⟩ ?_
  refine WO_nil rfl ?_
  refine thenS_n ?_
  refine W_seq ?_
  refine W_seq ?_
  refine W_region ?_
  refine WO_step 2 [0] [1, 10] (True ∧ True) ⟨[(1, I (w64 (i2 - ((x1.length : Nat) : Int)))), (10, B (decide ((w64 (i2 - ((x1.length : Nat) : Int))) < 0)))], [.row .acc x1 false]⟩ (by kernel_rfl) ⟨trivial, trivial⟩ ?_
  refine WO_nil rfl ?_
  refine thenS_n ?_
  refine iteO_e h (fun hb7 h => W_true rfl hb7 ?_) (fun hb7 h => W_false rfl hb7 ?_)
  · refine W_seq ?_
    refine W_region ?_
    refine WO_step 1 [0] [4] True ⟨[(4, I (-1))], [.row .acc x1 false]⟩ (by kernel_rfl) trivial ?_
    refine WO_nil rfl ?_
    refine thenS_n ?_
    refine W_ret ?_
    refine thenS_r ?_
    cases h
    exact ⟨[0], True, by kernel_rfl, trivial⟩
  · refine W_sub [0] [1] (st' := ⟨[(1, I (w64 (i2 - ((x1.length : Nat) : Int))))], [.row .acc x1 false]⟩) (by kernel_rfl) ?_
    refine W_skip ?_
    refine thenS_n ?_
    refine W_seq ?_
    refine W_region ?_
    refine WO_step 2 [0] [4] True ⟨[(4, I (w64 (i2 - ((x1.length : Nat) : Int))))], [.row .acc x1 false]⟩ (by kernel_rfl) trivial ?_
    refine WO_nil rfl ?_
    refine thenS_n ?_
    refine W_ret ?_
    cases h
    exact ⟨[0], True, by kernel_rfl, trivial⟩

/- laws.toAccess -/
def laws_toAccess (x1 : Acc) : Option (Int × Int × Bool) :=
 some (x1.who, x1.node, x1.write)

theorem laws_toAccess_ok (x1 : Acc) (i2 : Int) (i3 : Int) (b4 : Bool) (h : laws_toAccess x1 = some (i2, i3, b4)) : FOk EE 45 [AGG [cI x1.who, cI x1.node, cB x1.write]] [] (AGG [cI i2, cI i3, cB b4]) [] := by
  unfold laws_toAccess at h
  refine FOk_of_W 14 0 Try.func45 rfl rfl (Nat.le_of_ble_eq_true rfl) rfl (fun w X θ => ?_)
  refine W_seq ?_
  refine W_region ?_
  refine WO_step 2 [0, 1] [1, 2] (True ∧ (True ∧ True)) ⟨[(1, .one (.e (.p 0 0))), (2, .one (.e (.p 1 0)))], [.cells [cI x1.who, cI x1.node, cB x1.write], .cells [cI 0, cI 0, cB false]]⟩ (by kernel_rfl) ⟨trivial, trivial, trivial⟩ ?_
  refine WO_nil rfl ?_
  refine thenS_n ?_
  refine W_seq ?_
  refine W_region ?_
  refine WO_step 1 [0, 1, 2] [1, 2, 3] (True ∧ True) ⟨[(1, .one (.e (.p 0 0))), (2, .one (.e (.p 1 0))), (3, .one (.e (.p 2 0)))], [.cells [cI x1.who, cI x1.node, cB x1.write], .cells [cI 0, cI 0, cB false], .cells [cI 0, cI 0, cB false]]⟩ (by kernel_rfl) ⟨trivial, trivial⟩ ?_
  refine WO_nil rfl ?_
  refine thenS_n ?_
  refine W_seq ?_
  refine W_region ?_
  refine WO_step 4 [0, 1, 2] [1, 2, 3] (True ∧ (True ∧ True)) ⟨[(1, .one (.e (.p 0 0))), (2, .one (.e (.p 1 0))), (3, .one (.e (.p 2 0)))], [.cells [cI x1.who, cI x1.node, cB x1.write], .cells [cI 0, cI 0, cB false], .cells [cI x1.who, cI 0, cB false]]⟩ (by kernel_rfl) ⟨trivial, trivial, trivial⟩ ?_
  refine WO_nil rfl ?_
  refine thenS_n ?_
  refine W_seq ?_
  refine W_region ?_
  refine WO_step 4 [0, 1, 2] [1, 2, 3] (True ∧ (True ∧ True)) ⟨[(1, .one (.e (.p 0 0))), (2, .one (.e (.p 1 0))), (3, .one (.e (.p 2 0)))], [.cells [cI x1.who, cI x1.node, cB x1.write], .cells [cI 0, cI 0, cB false], .cells [cI x1.who, cI x1.node, cB false]]⟩ (by kernel_rfl) ⟨trivial, trivial, trivial⟩ ?_
  refine WO_nil rfl ?_
  refine thenS_n ?_
  refine W_seq ?_
  refine W_region ?_
  refine WO_step 4 [1, 2] [2, 3] (True ∧ (True ∧ True)) ⟨[(2, .one (.e (.p 0 0))), (3, .one (.e (.p 1 0)))], [.cells [cI 0, cI 0, cB false], .cells [cI x1.who, cI x1.node, cB x1.write]]⟩ (by kernel_rfl) ⟨trivial, trivial, trivial⟩ ?_
  refine WO_nil rfl ?_
  refine thenS_n ?_
  refine W_seq ?_
  refine W_region ?_
  refine WO_step 2 [0] [2] (True ∧ (True ∧ True)) ⟨[(2, .one (.e (.p 0 0)))], [.cells [cI x1.who, cI x1.node, cB x1.write]]⟩ (by kernel_rfl) ⟨trivial, trivial, trivial⟩ ?_
  refine WO_nil rfl ?_
  refine thenS_n ?_
  refine W_ret ?_
  cases h
  exact ⟨[], True, by kernel_rfl, trivial⟩

/- laws.toAccessS -/
def laws_toAccessS_L1 (x1 : List Acc) : Nat → (List Acc) → Int → Option ((List Acc))
| 0, _, _ => none
| n + 1, x87, i88 =>
 iteO (decide (i88 < ((x1.length : Nat) : Int)))
 (guardO (0 ≤ i88 ∧ i88 < ((x1.length : Nat) : Int)) <|
 bindO (laws_toAccess (x1.getD i88.toNat dacc)) fun (i119, i120, b121) =>
 guardO (0 ≤ i88 ∧ i88 < ((x87.length : Nat) : Int)) <|
 laws_toAccessS_L1 x1 n (x87.set i88.toNat (⟨i119, i120, b121⟩ : Acc)) (w64 (i88 + 1)))
 (some x87)

theorem laws_toAccessS_L1_ok (w : World) (X : Nat → Prop) (θ : List Loc) (x1 : List Acc) (x107 : (List Acc)) : ∀ (n : Nat) (x87 : List Acc) (i88 : Int), laws_toAccessS_L1 x1 n x87 i88 = some x107 → WL EE ⟨w, X, θ, 23, 1⟩ (subC [1, 1, 0, 1, 4, 4] (bodyC Try.f25)) (fun (e : Exit) (s : St) => e = .exit 0 ∧ s = ⟨[(3, .one (.e (.sl 1 0 x107.length)))], [.row .acc x1 false, .row .acc x107 true]⟩) ⟨[(0, .one (.e (.sl 0 0 x1.length))), (3, .one (.e (.sl 1 0 x87.length))), (4, I i88)], [.row .acc x1 false, .row .acc x87 true]⟩ := by
  intro n
  induction n with
  | zero => intro _ _ h; exact none_e h
  | succ n ih =>
    intro x87 i88 h
    rw [laws_toAccessS_L1] at h
    refine WL_round ?_
    refine W_seq ?_
    refine W_seq ?_
    refine W_region ?_
    refine WO_step 4 [0, 1] [0, 3, 4, 11] (True ∧ (True ∧ True)) ⟨[(0, .one (.e (.sl 0 0 x1.length))), (3, .one (.e (.sl 1 0 x87.length))), (4, I i88), (11, B (decide (i88 < ((x1.length : Nat) : Int))))], [.row .acc x1 false, .row .acc x87 true]⟩ (by kernel_rfl) ⟨trivial, trivial, trivial⟩ ?_
    refine WO_nil rfl ?_
    refine thenS_n ?_
    refine iteO_e h (fun hb110 h => W_true rfl hb110 ?_) (fun hb110 h => W_false rfl hb110 ?_)
    · refine W_sub [0, 1] [0, 3, 4] (st' := ⟨[(0, .one (.e (.sl 0 0 x1.length))), (3, .one (.e (.sl 1 0 x87.length))), (4, I i88)], [.row .acc x1 false, .row .acc x87 true]⟩) (by kernel_rfl) ?_
      refine W_skip ?_
      refine thenS_n ?_
      refine W_seq ?_
      refine W_block ?_
      refine W_region ?_
      refine guardO_e h (fun hg118 h => ?_)
      refine WO_step 6 [0, 1] [0, 3, 4, 14, 15, 19] ((0 ≤ i88 ∧ i88 < ((x1.length : Nat) : Int)) ∧ (True ∧ True)) ⟨[(0, .one (.e (.sl 0 0 x1.length))), (3, .one (.e (.sl 1 0 x87.length))), (4, I i88), (14, .one (.e (.sl 1 0 x87.length))), (15, I i88), (19, AGG [cI ((x1.getD i88.toNat dacc).who), cI ((x1.getD i88.toNat dacc).node), cB ((x1.getD i88.toNat dacc).write)])], [.row .acc x1 false, .row .acc x87 true]⟩ (by kernel_rfl) ⟨hg118, trivial, trivial⟩ ?_
      refine bindO_e h (fun v124 hc122 h => ?_)
      obtain ⟨i119, i120, b121⟩ := v124
      refine WO_call [] Try.f45 rfl rfl rfl (by kernel_rfl) rfl rfl (by kernel_rfl) (laws_toAccess_ok (x1.getD i88.toNat dacc) i119 i120 b121 hc122) (trivial) rfl ?_
      refine guardO_e h (fun hg123 h => ?_)
      refine WO_step 2 [0, 1] [0, 3, 4] ((0 ≤ i88 ∧ i88 < ((x87.length : Nat) : Int)) ∧ (True ∧ True)) ⟨[(0, .one (.e (.sl 0 0 x1.length))), (3, .one (.e (.sl 1 0 x87.length))), (4, I i88)], [.row .acc x1 false, .row .acc (x87.set i88.toNat (⟨i119, i120, b121⟩ : Acc)) true]⟩ (by kernel_rfl) ⟨hg123, trivial, trivial⟩ ?_
      refine WO_eq (st' := ⟨[(0, .one (.e (.sl 0 0 x1.length))), (3, .one (.e (.sl 1 0 ((x87.set i88.toNat (⟨i119, i120, b121⟩ : Acc)).length)))), (4, I i88)], [.row .acc x1 false, .row .acc (x87.set i88.toNat (⟨i119, i120, b121⟩ : Acc)) true]⟩) (by simp only [List.length_set]) ?_
      refine WO_nil rfl ?_
      refine blockS_n ?_
      refine thenS_n ?_
      refine W_region ?_
      refine WO_step 3 [0, 1] [0, 3, 4] (True ∧ True) ⟨[(0, .one (.e (.sl 0 0 x1.length))), (3, .one (.e (.sl 1 0 ((x87.set i88.toNat (⟨i119, i120, b121⟩ : Acc)).length)))), (4, I (w64 (i88 + 1)))], [.row .acc x1 false, .row .acc (x87.set i88.toNat (⟨i119, i120, b121⟩ : Acc)) true]⟩ (by kernel_rfl) ⟨trivial, trivial⟩ ?_
      refine WO_nil rfl ?_
      refine thenS_n ?_
      exact ih _ _ h
    · refine W_sub [0, 1] [3] (st' := ⟨[(3, .one (.e (.sl 1 0 x87.length)))], [.row .acc x1 false, .row .acc x87 true]⟩) (by kernel_rfl) ?_
      refine W_exit ?_
      refine thenS_e ?_
      refine thenS_e ?_
      cases h
      exact And.intro rfl rfl

def laws_toAccessS (n : Nat) (x1 : List Acc) : Option ((List Acc)) :=
 guardO ((((x1.length : Nat) : Int) : Int) = ((x1.length : Nat) : Int) ∧ 0 ≤ ((x1.length : Nat) : Int) ∧ ((x1.length : Nat) : Int) ≤ 1099511627776) <|
 bindO (laws_toAccessS_L1 x1 n (List.replicate (((x1.length : Nat) : Int).toNat) dacc) 0) fun x107 =>
 some x107

theorem laws_toAccessS_ok (n : Nat) (x1 : List Acc) (x63 : List Acc) (h : laws_toAccessS n x1 = some x63) : FOk EE 25 [.one (.e (.sl 0 0 x1.length))] [.row .acc x1 false] (.one (.e (.sl 1 0 x63.length))) [.row .acc x1 false, .row .acc x63 true] := by
  unfold laws_toAccessS at h
  refine FOk_of_W 23 1 Try.func25 rfl rfl (Nat.le_of_ble_eq_true rfl) rfl (fun w X θ => ?_)
  refine W_seq ?_
  refine W_region ?_
  refine WO_step 1 [0] [0] True ⟨[(0, .one (.e (.sl 0 0 x1.length)))], [.row .acc x1 false]⟩ (by kernel_rfl) trivial ?_
  refine WO_nil rfl ?_
  refine thenS_n ?_
  refine W_seq ?_
  refine W_region ?_
  refine guardO_e h (fun hg64 h => ?_)
  refine WO_step 4 [0, 1] [0, 3] (True ∧ (((((x1.length : Nat) : Int) : Int) = ((x1.length : Nat) : Int) ∧ 0 ≤ ((x1.length : Nat) : Int) ∧ ((x1.length : Nat) : Int) ≤ 1099511627776) ∧ True)) ⟨[(0, .one (.e (.sl 0 0 x1.length))), (3, .one (.e (.sl 1 0 ((List.replicate (((x1.length : Nat) : Int).toNat) dacc).length))))], [.row .acc x1 false, .row .acc (List.replicate (((x1.length : Nat) : Int).toNat) dacc) true]⟩ (by kernel_rfl) ⟨trivial, hg64, trivial⟩ ?_
  refine WO_nil rfl ?_
  refine thenS_n ?_
  refine W_seq ?_
  refine W_seq ?_
  refine W_region ?_
  refine WO_step 1 [0, 1] [0, 3, 4] True ⟨[(0, .one (.e (.sl 0 0 x1.length))), (3, .one (.e (.sl 1 0 ((List.replicate (((x1.length : Nat) : Int).toNat) dacc).length)))), (4, I 0)], [.row .acc x1 false, .row .acc (List.replicate (((x1.length : Nat) : Int).toNat) dacc) true]⟩ (by kernel_rfl) trivial ?_
  refine WO_nil rfl ?_
  refine thenS_n ?_
  refine W_block ?_
  refine W_loop ?_
  refine bindO_e h (fun x107 hx107 h => ?_)
  refine WL_cut (laws_toAccessS_L1_ok w X θ x1 x107 n (List.replicate (((x1.length : Nat) : Int).toNat) dacc) 0 hx107) ?_
  rintro _ _ ⟨rfl, rfl⟩
  refine blockS_y ?_
  refine thenS_n ?_
  refine W_seq ?_
  refine W_region ?_
  refine WO_step 2 [0, 1] [2] True ⟨[(2, .one (.e (.sl 1 0 x107.length)))], [.row .acc x1 false, .row .acc x107 true]⟩ (by kernel_rfl) trivial ?_
  refine WO_nil rfl ?_
  refine thenS_n ?_
  refine W_ret ?_
  cases h
  exact ⟨[0, 1], True, by kernel_rfl, trivial⟩

/- laws.eqIntS -/
def laws_eqIntS_L1 (x1 : List Int) (x2 : List Int) : Nat → Int → Option ((Unit) ⊕ (Unit))
| 0, _ => none
| n + 1, i57 =>
 iteO (decide (i57 < ((x1.length : Nat) : Int)))
 (guardO (0 ≤ i57 ∧ i57 < ((x1.length : Nat) : Int)) <|
 guardO (0 ≤ i57 ∧ i57 < ((x2.length : Nat) : Int)) <|
 iteO (!decide ((x1.getD i57.toNat 0) = (x2.getD i57.toNat 0)))
 (some (.inl ()))
 (laws_eqIntS_L1 x1 x2 n (w64 (i57 + 1))))
 (some (.inr ()))

theorem laws_eqIntS_L1_ok (w : World) (X : Nat → Prop) (θ : List Loc) (x1 : List Int) (x2 : List Int) (v : (Unit) ⊕ (Unit)) : ∀ (n : Nat) (i57 : Int), laws_eqIntS_L1 x1 x2 n i57 = some v → WL EE ⟨w, X, θ, 26, 2⟩ (subC [1, 1, 0, 1, 4, 4] (bodyC Try.f26)) (fun (e : Exit) (s : St) => (match v with | (.inl _) => e = .ret ∧ s = ⟨[(4, B false)], [.row .int x1 false, .row .int x2 false]⟩ | (.inr _) => e = .exit 0 ∧ s = ⟨[], [.row .int x1 false, .row .int x2 false]⟩ : Prop)) ⟨[(0, .one (.e (.sl 0 0 x1.length))), (1, .one (.e (.sl 1 0 x2.length))), (5, I i57)], [.row .int x1 false, .row .int x2 false]⟩ := by
  intro n
  induction n with
  | zero => intro _ h; exact none_e h
  | succ n ih =>
    intro i57 h
    rw [laws_eqIntS_L1] at h
    refine WL_round ?_
    refine W_seq ?_
    refine W_seq ?_
    refine W_region ?_
    refine WO_step 4 [0, 1] [0, 1, 5, 14] (True ∧ (True ∧ True)) ⟨[(0, .one (.e (.sl 0 0 x1.length))), (1, .one (.e (.sl 1 0 x2.length))), (5, I i57), (14, B (decide (i57 < ((x1.length : Nat) : Int))))], [.row .int x1 false, .row .int x2 false]⟩ (by kernel_rfl) ⟨trivial, trivial, trivial⟩ ?_
    refine WO_nil rfl ?_
    refine thenS_n ?_
    refine iteO_e h (fun hb71 h => W_true rfl hb71 ?_) (fun hb71 h => W_false rfl hb71 ?_)
    · refine W_sub [0, 1] [0, 1, 5] (st' := ⟨[(0, .one (.e (.sl 0 0 x1.length))), (1, .one (.e (.sl 1 0 x2.length))), (5, I i57)], [.row .int x1 false, .row .int x2 false]⟩) (by kernel_rfl) ?_
      refine W_skip ?_
      refine thenS_n ?_
      refine W_seq ?_
      refine W_block ?_
      refine W_seq ?_
      refine guardO_e h (fun hg76 h => ?_)
      refine guardO_e h (fun hg77 h => ?_)
      refine W_cut (Q' := fun (e : Exit) (s : St) => e = .normal ∧ s = ⟨[(0, .one (.e (.sl 0 0 x1.length))), (1, .one (.e (.sl 1 0 x2.length))), (5, I i57), (25, B (!decide ((x1.getD i57.toNat 0) = (x2.getD i57.toNat 0))))], [.row .int x1 false, .row .int x2 false]⟩) ?_ ?_
      · refine W_draw [] true (by kernel_rfl) (by kernel_rfl) ?_
        refine WD_takeK [0, 1, 2, 3, 4, 5, 6, 7, 8] [0, 1, 5, 25] [0, 1, 5, 25] (φ := ((0 ≤ i57 ∧ i57 < ((x1.length : Nat) : Int)) ∧ (0 ≤ i57 ∧ i57 < ((x1.length : Nat) : Int)) ∧ (True ∧ True ∧ ((0 ≤ i57 ∧ i57 < ((x2.length : Nat) : Int)) ∧ (0 ≤ i57 ∧ i57 < ((x2.length : Nat) : Int)) ∧ (True ∧ True ∧ (True ∧ True ∧ True)))))) (ls' := #[true, true, true, true, true, true, true, true, true]) (Ts' := [(0, .one (.e (.sl 0 0 x1.length))), (1, .one (.e (.sl 1 0 x2.length))), (5, I i57), (25, B (!decide ((x1.getD i57.toNat 0) = (x2.getD i57.toNat 0))))]) (st' := ⟨[(0, .one (.e (.sl 0 0 x1.length))), (1, .one (.e (.sl 1 0 x2.length))), (5, I i57), (25, B (!decide ((x1.getD i57.toNat 0) = (x2.getD i57.toNat 0))))], [.row .int x1 false, .row .int x2 false]⟩) (n2 := 0) (by kernel_rfl) ⟨hg76, hg76, trivial, trivial, hg77, hg77, trivial, trivial, trivial, trivial, trivial⟩ rfl ?_
        exact WD_done [0, 1] [0, 1, 5, 25] (st' := ⟨[(0, .one (.e (.sl 0 0 x1.length))), (1, .one (.e (.sl 1 0 x2.length))), (5, I i57), (25, B (!decide ((x1.getD i57.toNat 0) = (x2.getD i57.toNat 0))))], [.row .int x1 false, .row .int x2 false]⟩) (by kernel_rfl) (by kernel_rfl) (And.intro rfl rfl)
      · rintro _ _ ⟨rfl, rfl⟩
        refine thenS_n ?_
        refine iteO_e h (fun hb79 h => W_true rfl hb79 ?_) (fun hb79 h => W_false rfl hb79 ?_)
        · refine W_seq ?_
          refine W_region ?_
          refine WO_step 1 [0, 1] [4] True ⟨[(4, B false)], [.row .int x1 false, .row .int x2 false]⟩ (by kernel_rfl) trivial ?_
          refine WO_nil rfl ?_
          refine thenS_n ?_
          refine W_ret ?_
          refine blockS_r ?_
          refine thenS_r ?_
          refine thenS_r ?_
          cases h
          exact And.intro rfl rfl
        · refine W_sub [0, 1] [0, 1, 5] (st' := ⟨[(0, .one (.e (.sl 0 0 x1.length))), (1, .one (.e (.sl 1 0 x2.length))), (5, I i57)], [.row .int x1 false, .row .int x2 false]⟩) (by kernel_rfl) ?_
          refine W_skip ?_
          refine blockS_n ?_
          refine thenS_n ?_
          refine W_region ?_
          refine WO_step 3 [0, 1] [0, 1, 5] (True ∧ True) ⟨[(0, .one (.e (.sl 0 0 x1.length))), (1, .one (.e (.sl 1 0 x2.length))), (5, I (w64 (i57 + 1)))], [.row .int x1 false, .row .int x2 false]⟩ (by kernel_rfl) ⟨trivial, trivial⟩ ?_
          refine WO_nil rfl ?_
          refine thenS_n ?_
          exact ih _ h
    · refine W_sub [0, 1] [] (st' := ⟨[], [.row .int x1 false, .row .int x2 false]⟩) (by kernel_rfl) ?_
      refine W_exit ?_
      refine thenS_e ?_
      refine thenS_e ?_
      cases h
      exact And.intro rfl rfl

def laws_eqIntS (n : Nat) (x1 : List Int) (x2 : List Int) : Option (Bool) :=
 iteO (!decide (((x1.length : Nat) : Int) = ((x2.length : Nat) : Int)))
 (some false)
 (bindO (laws_eqIntS_L1 x1 x2 n 0) fun v80 =>
 match v80 with
 | (.inl _) => (some false)
 | (.inr _) => (some true)
)

theorem laws_eqIntS_ok (n : Nat) (x1 : List Int) (x2 : List Int) (b41 : Bool) (h : laws_eqIntS n x1 x2 = some b41) : FOk EE 26 [.one (.e (.sl 0 0 x1.length)), .one (.e (.sl 1 0 x2.length))] [.row .int x1 false, .row .int x2 false] (B b41) [.row .int x1 false, .row .int x2 false] := by
  unfold laws_eqIntS at h
  refine FOk_of_W 26 2 Try.func26 rfl rfl (Nat.le_of_ble_eq_true rfl) rfl (fun w X θ => ?_)
  refine W_seq ?_
  refine W_region ?_
  refine WO_step 1 [0, 1] [0, 1] True ⟨[(0, .one (.e (.sl 0 0 x1.length))), (1, .one (.e (.sl 1 0 x2.length)))], [.row .int x1 false, .row .int x2 false]⟩ (by kernel_rfl) trivial ?_
  refine WO_nil rfl ?_
  refine thenS_n ?_
  refine W_seq ?_
  refine W_seq ?_
  refine W_region ?_
  refine WO_step 5 [0, 1] [0, 1, 10] (True ∧ (True ∧ (True ∧ True))) ⟨[(0, .one (.e (.sl 0 0 x1.length))), (1, .one (.e (.sl 1 0 x2.length))), (10, B (!decide (((x1.length : Nat) : Int) = ((x2.length : Nat) : Int))))], [.row .int x1 false, .row .int x2 false]⟩ (by kernel_rfl) ⟨trivial, trivial, trivial, trivial⟩ ?_
  refine WO_nil rfl ?_
  refine thenS_n ?_
  refine iteO_e h (fun hb43 h => W_true rfl hb43 ?_) (fun hb43 h => W_false rfl hb43 ?_)
  · refine W_seq ?_
    refine W_region ?_
    refine WO_step 1 [0, 1] [4] True ⟨[(4, B false)], [.row .int x1 false, .row .int x2 false]⟩ (by kernel_rfl) trivial ?_
    refine WO_nil rfl ?_
    refine thenS_n ?_
    refine W_ret ?_
    refine thenS_r ?_
    cases h
    exact ⟨[0, 1], True, by kernel_rfl, trivial⟩
  · refine W_sub [0, 1] [0, 1] (st' := ⟨[(0, .one (.e (.sl 0 0 x1.length))), (1, .one (.e (.sl 1 0 x2.length)))], [.row .int x1 false, .row .int x2 false]⟩) (by kernel_rfl) ?_
    refine W_skip ?_
    refine thenS_n ?_
    refine W_seq ?_
    refine W_seq ?_
    refine W_region ?_
    refine WO_step 1 [0, 1] [0, 1, 5] True ⟨[(0, .one (.e (.sl 0 0 x1.length))), (1, .one (.e (.sl 1 0 x2.length))), (5, I 0)], [.row .int x1 false, .row .int x2 false]⟩ (by kernel_rfl) trivial ?_
    refine WO_nil rfl ?_
    refine thenS_n ?_
    refine W_block ?_
    refine W_loop ?_
    refine bindO_e h (fun v80 hv80 h => ?_)
    refine WL_cut (laws_eqIntS_L1_ok w X θ x1 x2 v80 n 0 hv80) ?_
    rcases v80 with _ | _
    · rintro _ _ ⟨rfl, rfl⟩
      refine blockS_r ?_
      refine thenS_r ?_
      cases h
      exact ⟨[0, 1], True, by kernel_rfl, trivial⟩
    · rintro _ _ ⟨rfl, rfl⟩
      refine blockS_y ?_
      refine thenS_n ?_
      refine W_seq ?_
      refine W_region ?_
      refine WO_step 1 [0, 1] [4] True ⟨[(4, B true)], [.row .int x1 false, .row .int x2 false]⟩ (by kernel_rfl) trivial ?_
      refine WO_nil rfl ?_
      refine thenS_n ?_
      refine W_ret ?_
      cases h
      exact ⟨[0, 1], True, by kernel_rfl, trivial⟩

/- laws.eqAccess -/
def laws_eqAccess (x1 : Acc) (x2 : Acc) : Option (Bool) :=
 iteO (!decide (x1.who = x2.who))
 (some false)
 (iteO (!decide (x1.node = x2.node))
 (some false)
 (iteO (!(x1.write == x2.write))
 (some false)
 (some true)))

theorem laws_eqAccess_ok (x1 : Acc) (x2 : Acc) (b9 : Bool) (h : laws_eqAccess x1 x2 = some b9) : FOk EE 46 [AGG [cI x1.who, cI x1.node, cB x1.write], AGG [cI x2.who, cI x2.node, cB x2.write]] [] (B b9) [] := by
  unfold laws_eqAccess at h
  refine FOk_of_W 20 0 Try.func46 rfl rfl (Nat.le_of_ble_eq_true rfl) rfl (fun w X θ => ?_)
  refine W_seq ?_
  refine W_region ?_
  refine WO_step 3 [0, 1] [2, 3] (True ∧ (True ∧ True)) ⟨[(2, .one (.e (.p 0 0))), (3, .one (.e (.p 1 0)))], [.cells [cI x1.who, cI x1.node, cB x1.write], .cells [cI x2.who, cI x2.node, cB x2.write]]⟩ (by kernel_rfl) ⟨trivial, trivial, trivial⟩ ?_
  refine WO_nil rfl ?_
  refine thenS_n ?_
  refine W_seq ?_
  refine W_seq ?_
  refine W_region ?_
  refine WO_step 5 [0, 1] [2, 3, 9] (True ∧ (True ∧ (True ∧ True))) ⟨[(2, .one (.e (.p 0 0))), (3, .one (.e (.p 1 0))), (9, B (!decide (x1.who = x2.who)))], [.cells [cI x1.who, cI x1.node, cB x1.write], .cells [cI x2.who, cI x2.node, cB x2.write]]⟩ (by kernel_rfl) ⟨trivial, trivial, trivial, trivial⟩ ?_
  refine WO_nil rfl ?_
  refine thenS_n ?_
  refine iteO_e h (fun hb11 h => W_true rfl hb11 ?_) (fun hb11 h => W_false rfl hb11 ?_)
  · refine W_seq ?_
    refine W_region ?_
    refine WO_step 1 [] [4] True ⟨[(4, B false)], []⟩ (by kernel_rfl) trivial ?_
    refine WO_nil rfl ?_
    refine thenS_n ?_
    refine W_ret ?_
    refine thenS_r ?_
    cases h
    exact ⟨[], True, by kernel_rfl, trivial⟩
  · refine W_sub [0, 1] [2, 3] (st' := ⟨[(2, .one (.e (.p 0 0))), (3, .one (.e (.p 1 0)))], [.cells [cI x1.who, cI x1.node, cB x1.write], .cells [cI x2.who, cI x2.node, cB x2.write]]⟩) (by kernel_rfl) ?_
    refine W_skip ?_
    refine thenS_n ?_
    refine W_seq ?_
    refine W_seq ?_
    refine W_region ?_
    refine WO_step 5 [0, 1] [2, 3, 14] (True ∧ (True ∧ (True ∧ True))) ⟨[(2, .one (.e (.p 0 0))), (3, .one (.e (.p 1 0))), (14, B (!decide (x1.node = x2.node)))], [.cells [cI x1.who, cI x1.node, cB x1.write], .cells [cI x2.who, cI x2.node, cB x2.write]]⟩ (by kernel_rfl) ⟨trivial, trivial, trivial, trivial⟩ ?_
    refine WO_nil rfl ?_
    refine thenS_n ?_
    refine iteO_e h (fun hb13 h => W_true rfl hb13 ?_) (fun hb13 h => W_false rfl hb13 ?_)
    · refine W_seq ?_
      refine W_region ?_
      refine WO_step 1 [] [4] True ⟨[(4, B false)], []⟩ (by kernel_rfl) trivial ?_
      refine WO_nil rfl ?_
      refine thenS_n ?_
      refine W_ret ?_
      refine thenS_r ?_
      cases h
      exact ⟨[], True, by kernel_rfl, trivial⟩
    · refine W_sub [0, 1] [2, 3] (st' := ⟨[(2, .one (.e (.p 0 0))), (3, .one (.e (.p 1 0)))], [.cells [cI x1.who, cI x1.node, cB x1.write], .cells [cI x2.who, cI x2.node, cB x2.write]]⟩) (by kernel_rfl) ?_
      refine W_skip ?_
      refine thenS_n ?_
      refine W_seq ?_
      refine W_seq ?_
      refine W_region ?_
      refine WO_step 5 [] [19] (True ∧ (True ∧ (True ∧ True))) ⟨[(19, B (!(x1.write == x2.write)))], []⟩ (by kernel_rfl) ⟨trivial, trivial, trivial, trivial⟩ ?_
      refine WO_nil rfl ?_
      refine thenS_n ?_
      refine iteO_e h (fun hb15 h => W_true rfl hb15 ?_) (fun hb15 h => W_false rfl hb15 ?_)
      · refine W_seq ?_
        refine W_region ?_
        refine WO_step 1 [] [4] True ⟨[(4, B false)], []⟩ (by kernel_rfl) trivial ?_
        refine WO_nil rfl ?_
        refine thenS_n ?_
        refine W_ret ?_
        refine thenS_r ?_
        cases h
        exact ⟨[], True, by kernel_rfl, trivial⟩
      · refine W_sub [] [] (st' := ⟨[], []⟩) (by kernel_rfl) ?_
        refine W_skip ?_
        refine thenS_n ?_
        refine W_seq ?_
        refine W_region ?_
        refine WO_step 1 [] [4] True ⟨[(4, B true)], []⟩ (by kernel_rfl) trivial ?_
        refine WO_nil rfl ?_
        refine thenS_n ?_
        refine W_ret ?_
        cases h
        exact ⟨[], True, by kernel_rfl, trivial⟩

/- laws.eqAccessS -/
def laws_eqAccessS_L1 (x1 : List Acc) (x2 : List Acc) : Nat → Int → Option ((Unit) ⊕ (Unit))
| 0, _ => none
| n + 1, i73 =>
 iteO (decide (i73 < ((x1.length : Nat) : Int)))
 (guardO (0 ≤ i73 ∧ i73 < ((x1.length : Nat) : Int)) <|
 guardO (0 ≤ i73 ∧ i73 < ((x2.length : Nat) : Int)) <|
 bindO (laws_eqAccess (x1.getD i73.toNat dacc) (x2.getD i73.toNat dacc)) fun b100 =>
 iteO (!b100)
 (some (.inl ()))
 (laws_eqAccessS_L1 x1 x2 n (w64 (i73 + 1))))
 (some (.inr ()))

theorem laws_eqAccessS_L1_ok (w : World) (X : Nat → Prop) (θ : List Loc) (x1 : List Acc) (x2 : List Acc) (v : (Unit) ⊕ (Unit)) : ∀ (n : Nat) (i73 : Int), laws_eqAccessS_L1 x1 x2 n i73 = some v → WL EE ⟨w, X, θ, 27, 2⟩ (subC [1, 1, 0, 1, 4, 4] (bodyC Try.f27)) (fun (e : Exit) (s : St) => (match v with | (.inl _) => e = .ret ∧ s = ⟨[(4, B false)], [.row .acc x1 false, .row .acc x2 false]⟩ | (.inr _) => e = .exit 0 ∧ s = ⟨[], [.row .acc x1 false, .row .acc x2 false]⟩ : Prop)) ⟨[(0, .one (.e (.sl 0 0 x1.length))), (1, .one (.e (.sl 1 0 x2.length))), (5, I i73)], [.row .acc x1 false, .row .acc x2 false]⟩ := by
  intro n
  induction n with
  | zero => intro _ h; exact none_e h
  | succ n ih =>
    intro i73 h
    rw [laws_eqAccessS_L1] at h
    refine WL_round ?_
    refine W_seq ?_
    refine W_seq ?_
    refine W_region ?_
    refine WO_step 4 [0, 1] [0, 1, 5, 14] (True ∧ (True ∧ True)) ⟨[(0, .one (.e (.sl 0 0 x1.length))), (1, .one (.e (.sl 1 0 x2.length))), (5, I i73), (14, B (decide (i73 < ((x1.length : Nat) : Int))))], [.row .acc x1 false, .row .acc x2 false]⟩ (by kernel_rfl) ⟨trivial, trivial, trivial⟩ ?_
    refine WO_nil rfl ?_
    refine thenS_n ?_
    refine iteO_e h (fun hb91 h => W_true rfl hb91 ?_) (fun hb91 h => W_false rfl hb91 ?_)
    · refine W_sub [0, 1] [0, 1, 5] (st' := ⟨[(0, .one (.e (.sl 0 0 x1.length))), (1, .one (.e (.sl 1 0 x2.length))), (5, I i73)], [.row .acc x1 false, .row .acc x2 false]⟩) (by kernel_rfl) ?_
      refine W_skip ?_
      refine thenS_n ?_
      refine W_seq ?_
      refine W_block ?_
      refine W_seq ?_
      refine guardO_e h (fun hg98 h => ?_)
      refine guardO_e h (fun hg99 h => ?_)
      refine bindO_e h (fun b100 hc101 h => ?_)
      refine W_cut (Q' := fun (e : Exit) (s : St) => e = .normal ∧ s = ⟨[(0, .one (.e (.sl 0 0 x1.length))), (1, .one (.e (.sl 1 0 x2.length))), (5, I i73), (26, B (!b100))], [.row .acc x1 false, .row .acc x2 false]⟩) ?_ ?_
      · refine W_draw [] false (by kernel_rfl) (by kernel_rfl) ?_
        refine WD_takeK [0, 1, 2, 3, 4, 5, 6, 7] [0, 1, 5, 20, 24] [0, 1, 5, 20, 24] (φ := ((0 ≤ i73 ∧ i73 < ((x1.length : Nat) : Int)) ∧ (0 ≤ i73 ∧ i73 < ((x1.length : Nat) : Int)) ∧ (True ∧ True ∧ ((0 ≤ i73 ∧ i73 < ((x2.length : Nat) : Int)) ∧ (0 ≤ i73 ∧ i73 < ((x2.length : Nat) : Int)) ∧ (True ∧ True ∧ True))))) (ls' := #[true, true, true, true, true, true, true, true, false, false]) (Ts' := [(0, .one (.e (.sl 0 0 x1.length))), (1, .one (.e (.sl 1 0 x2.length))), (5, I i73), (20, AGG [cI ((x1.getD i73.toNat dacc).who), cI ((x1.getD i73.toNat dacc).node), cB ((x1.getD i73.toNat dacc).write)]), (24, AGG [cI ((x2.getD i73.toNat dacc).who), cI ((x2.getD i73.toNat dacc).node), cB ((x2.getD i73.toNat dacc).write)])]) (st' := ⟨[(0, .one (.e (.sl 0 0 x1.length))), (1, .one (.e (.sl 1 0 x2.length))), (5, I i73), (20, AGG [cI ((x1.getD i73.toNat dacc).who), cI ((x1.getD i73.toNat dacc).node), cB ((x1.getD i73.toNat dacc).write)]), (24, AGG [cI ((x2.getD i73.toNat dacc).who), cI ((x2.getD i73.toNat dacc).node), cB ((x2.getD i73.toNat dacc).write)])], [.row .acc x1 false, .row .acc x2 false]⟩) (n2 := 2) (by kernel_rfl) ⟨hg98, hg98, trivial, trivial, hg99, hg99, trivial, trivial, trivial⟩ rfl ?_
        refine WD_all [8] (n := 1) (by kernel_rfl) rfl ?_
        refine WM_call [] Try.f46 rfl rfl (by kernel_rfl) rfl rfl (by kernel_rfl) (laws_eqAccess_ok (x1.getD i73.toNat dacc) (x2.getD i73.toNat dacc) b100 hc101) (trivial) rfl (And.intro rfl (And.intro rfl (trivial))) ?_
        refine WD_takeK [9] [0, 1, 5, 26] [0, 1, 5, 26] (φ := True) (ls' := #[true, true, true, true, true, true, true, true, true, true]) (Ts' := [(0, .one (.e (.sl 0 0 x1.length))), (1, .one (.e (.sl 1 0 x2.length))), (5, I i73), (26, B (!b100))]) (st' := ⟨[(0, .one (.e (.sl 0 0 x1.length))), (1, .one (.e (.sl 1 0 x2.length))), (5, I i73), (26, B (!b100))], [.row .acc x1 false, .row .acc x2 false]⟩) (n2 := 0) (by kernel_rfl) trivial rfl ?_
        exact WD_done [0, 1] [0, 1, 5, 26] (st' := ⟨[(0, .one (.e (.sl 0 0 x1.length))), (1, .one (.e (.sl 1 0 x2.length))), (5, I i73), (26, B (!b100))], [.row .acc x1 false, .row .acc x2 false]⟩) (by kernel_rfl) (by kernel_rfl) (And.intro rfl rfl)
      · rintro _ _ ⟨rfl, rfl⟩
        refine thenS_n ?_
        refine iteO_e h (fun hb103 h => W_true rfl hb103 ?_) (fun hb103 h => W_false rfl hb103 ?_)
        · refine W_seq ?_
          refine W_region ?_
          refine WO_step 1 [0, 1] [4] True ⟨[(4, B false)], [.row .acc x1 false, .row .acc x2 false]⟩ (by kernel_rfl) trivial ?_
          refine WO_nil rfl ?_
          refine thenS_n ?_
          refine W_ret ?_
          refine blockS_r ?_
          refine thenS_r ?_
          refine thenS_r ?_
          cases h
          exact And.intro rfl rfl
        · refine W_sub [0, 1] [0, 1, 5] (st' := ⟨[(0, .one (.e (.sl 0 0 x1.length))), (1, .one (.e (.sl 1 0 x2.length))), (5, I i73)], [.row .acc x1 false, .row .acc x2 false]⟩) (by kernel_rfl) ?_
          refine W_skip ?_
          refine blockS_n ?_
          refine thenS_n ?_
          refine W_region ?_
          refine WO_step 3 [0, 1] [0, 1, 5] (True ∧ True) ⟨[(0, .one (.e (.sl 0 0 x1.length))), (1, .one (.e (.sl 1 0 x2.length))), (5, I (w64 (i73 + 1)))], [.row .acc x1 false, .row .acc x2 false]⟩ (by kernel_rfl) ⟨trivial, trivial⟩ ?_
          refine WO_nil rfl ?_
          refine thenS_n ?_
          exact ih _ h
    · refine W_sub [0, 1] [] (st' := ⟨[], [.row .acc x1 false, .row .acc x2 false]⟩) (by kernel_rfl) ?_
      refine W_exit ?_
      refine thenS_e ?_
      refine thenS_e ?_
      cases h
      exact And.intro rfl rfl

def laws_eqAccessS (n : Nat) (x1 : List Acc) (x2 : List Acc) : Option (Bool) :=
 iteO (!decide (((x1.length : Nat) : Int) = ((x2.length : Nat) : Int)))
 (some false)
 (bindO (laws_eqAccessS_L1 x1 x2 n 0) fun v104 =>
 match v104 with
 | (.inl _) => (some false)
 | (.inr _) => (some true)
)

theorem laws_eqAccessS_ok (n : Nat) (x1 : List Acc) (x2 : List Acc) (b53 : Bool) (h : laws_eqAccessS n x1 x2 = some b53) : FOk EE 27 [.one (.e (.sl 0 0 x1.length)), .one (.e (.sl 1 0 x2.length))] [.row .acc x1 false, .row .acc x2 false] (B b53) [.row .acc x1 false, .row .acc x2 false] := by
  unfold laws_eqAccessS at h
  refine FOk_of_W 27 2 Try.func27 rfl rfl (Nat.le_of_ble_eq_true rfl) rfl (fun w X θ => ?_)
  refine W_seq ?_
  refine W_region ?_
  refine WO_step 1 [0, 1] [0, 1] True ⟨[(0, .one (.e (.sl 0 0 x1.length))), (1, .one (.e (.sl 1 0 x2.length)))], [.row .acc x1 false, .row .acc x2 false]⟩ (by kernel_rfl) trivial ?_
  refine WO_nil rfl ?_
  refine thenS_n ?_
  refine W_seq ?_
  refine W_seq ?_
  refine W_region ?_
  refine WO_step 5 [0, 1] [0, 1, 10] (True ∧ (True ∧ (True ∧ True))) ⟨[(0, .one (.e (.sl 0 0 x1.length))), (1, .one (.e (.sl 1 0 x2.length))), (10, B (!decide (((x1.length : Nat) : Int) = ((x2.length : Nat) : Int))))], [.row .acc x1 false, .row .acc x2 false]⟩ (by kernel_rfl) ⟨trivial, trivial, trivial, trivial⟩ ?_
  refine WO_nil rfl ?_
  refine thenS_n ?_
  refine iteO_e h (fun hb55 h => W_true rfl hb55 ?_) (fun hb55 h => W_false rfl hb55 ?_)
  · refine W_seq ?_
    refine W_region ?_
    refine WO_step 1 [0, 1] [4] True ⟨[(4, B false)], [.row .acc x1 false, .row .acc x2 false]⟩ (by kernel_rfl) trivial ?_
    refine WO_nil rfl ?_
    refine thenS_n ?_
    refine W_ret ?_
    refine thenS_r ?_
    cases h
    exact ⟨[0, 1], True, by kernel_rfl, trivial⟩
  · refine W_sub [0, 1] [0, 1] (st' := ⟨[(0, .one (.e (.sl 0 0 x1.length))), (1, .one (.e (.sl 1 0 x2.length)))], [.row .acc x1 false, .row .acc x2 false]⟩) (by kernel_rfl) ?_
    refine W_skip ?_
    refine thenS_n ?_
    refine W_seq ?_
    refine W_seq ?_
    refine W_region ?_
    refine WO_step 1 [0, 1] [0, 1, 5] True ⟨[(0, .one (.e (.sl 0 0 x1.length))), (1, .one (.e (.sl 1 0 x2.length))), (5, I 0)], [.row .acc x1 false, .row .acc x2 false]⟩ (by kernel_rfl) trivial ?_
    refine WO_nil rfl ?_
    refine thenS_n ?_
    refine W_block ?_
    refine W_loop ?_
    refine bindO_e h (fun v104 hv104 h => ?_)
    refine WL_cut (laws_eqAccessS_L1_ok w X θ x1 x2 v104 n 0 hv104) ?_
    rcases v104 with _ | _
    · rintro _ _ ⟨rfl, rfl⟩
      refine blockS_r ?_
      refine thenS_r ?_
      cases h
      exact ⟨[0, 1], True, by kernel_rfl, trivial⟩
    · rintro _ _ ⟨rfl, rfl⟩
      refine blockS_y ?_
      refine thenS_n ?_
      refine W_seq ?_
      refine W_region ?_
      refine WO_step 1 [0, 1] [4] True ⟨[(4, B true)], [.row .acc x1 false, .row .acc x2 false]⟩ (by kernel_rfl) trivial ?_
      refine WO_nil rfl ?_
      refine thenS_n ?_
      refine W_ret ?_
      cases h
      exact ⟨[0, 1], True, by kernel_rfl, trivial⟩

/- laws.markAccessS -/
def laws_markAccessS_L1 (k2 : Nat) : Nat → (List Acc) → Int → Int → Option (((List Acc) × Int))
| 0, _, _, _ => none
| n + 1, x65, i66, i67 =>
 iteO (decide (i67 < ((k2 : Nat) : Int)))
 (guardO (0 ≤ i67 ∧ i67 < ((k2 : Nat) : Int)) <|
 guardO (0 ≤ i67 ∧ i67 < ((k2 : Nat) : Int)) <|
 guardO (0 ≤ i67 ∧ i67 < ((k2 : Nat) : Int)) <|
 laws_markAccessS_L1 k2 n (((x65.set i67.toNat (⟨i66, (x65.getD i67.toNat dacc).node, (x65.getD i67.toNat dacc).write⟩ : Acc)).set i67.toNat (⟨((x65.set i67.toNat (⟨i66, (x65.getD i67.toNat dacc).node, (x65.getD i67.toNat dacc).write⟩ : Acc)).getD i67.toNat dacc).who, (w64 (i66 + 1)), ((x65.set i67.toNat (⟨i66, (x65.getD i67.toNat dacc).node, (x65.getD i67.toNat dacc).write⟩ : Acc)).getD i67.toNat dacc).write⟩ : Acc)).set i67.toNat (⟨(((x65.set i67.toNat (⟨i66, (x65.getD i67.toNat dacc).node, (x65.getD i67.toNat dacc).write⟩ : Acc)).set i67.toNat (⟨((x65.set i67.toNat (⟨i66, (x65.getD i67.toNat dacc).node, (x65.getD i67.toNat dacc).write⟩ : Acc)).getD i67.toNat dacc).who, (w64 (i66 + 1)), ((x65.set i67.toNat (⟨i66, (x65.getD i67.toNat dacc).node, (x65.getD i67.toNat dacc).write⟩ : Acc)).getD i67.toNat dacc).write⟩ : Acc)).getD i67.toNat dacc).who, (((x65.set i67.toNat (⟨i66, (x65.getD i67.toNat dacc).node, (x65.getD i67.toNat dacc).write⟩ : Acc)).set i67.toNat (⟨((x65.set i67.toNat (⟨i66, (x65.getD i67.toNat dacc).node, (x65.getD i67.toNat dacc).write⟩ : Acc)).getD i67.toNat dacc).who, (w64 (i66 + 1)), ((x65.set i67.toNat (⟨i66, (x65.getD i67.toNat dacc).node, (x65.getD i67.toNat dacc).write⟩ : Acc)).getD i67.toNat dacc).write⟩ : Acc)).getD i67.toNat dacc).node, (decide (((w64 ((w64 (i66 + 1)) + 1)).tmod 3) = 0))⟩ : Acc)) (w64 ((w64 ((w64 (i66 + 1)) + 1)) + 1)) (w64 (i67 + 1)))
 (some (x65, i66))

theorem laws_markAccessS_L1_ok (w : World) (X : Nat → Prop) (θ : List Loc) (k2 : Nat) (v : ((List Acc) × Int)) : ∀ (n : Nat) (x65 : List Acc) (i66 : Int) (i67 : Int), laws_markAccessS_L1 k2 n x65 i66 i67 = some v → WL EE ⟨w, X, θ, 36, 1⟩ (subC [1, 0, 1, 4, 4] (bodyC Try.f28)) (fun (e : Exit) (s : St) => (match v with | (x79, i80) => e = .exit 0 ∧ s = ⟨[(1, I i80)], [.row .acc x79 true]⟩ : Prop)) ⟨[(0, .one (.e (.sl 0 0 k2))), (1, I i66), (5, I i67)], [.row .acc x65 true]⟩ := by
  intro n
  induction n with
  | zero => intro _ _ _ h; exact none_e h
  | succ n ih =>
    intro x65 i66 i67 h
    rw [laws_markAccessS_L1] at h
    refine WL_round ?_
    refine W_seq ?_
    refine W_seq ?_
    refine W_region ?_
    refine WO_step 4 [0] [0, 1, 5, 9] (True ∧ (True ∧ True)) ⟨[(0, .one (.e (.sl 0 0 k2))), (1, I i66), (5, I i67), (9, B (decide (i67 < ((k2 : Nat) : Int))))], [.row .acc x65 true]⟩ (by kernel_rfl) ⟨trivial, trivial, trivial⟩ ?_
    refine WO_nil rfl ?_
    refine thenS_n ?_
    refine iteO_e h (fun hb83 h => W_true rfl hb83 ?_) (fun hb83 h => W_false rfl hb83 ?_)
    · refine W_sub [0] [0, 1, 5] (st' := ⟨[(0, .one (.e (.sl 0 0 k2))), (1, I i66), (5, I i67)], [.row .acc x65 true]⟩) (by kernel_rfl) ?_
      refine W_skip ?_
      refine thenS_n ?_
      refine W_seq ?_
      refine W_block ?_
      refine W_seq ?_
      refine W_region ?_
      refine guardO_e h (fun hg87 h => ?_)
      refine WO_step 6 [0] [0, 1, 5] ((0 ≤ i67 ∧ i67 < ((k2 : Nat) : Int)) ∧ (True ∧ True)) ⟨[(0, .one (.e (.sl 0 0 k2))), (1, I i66), (5, I i67)], [.row .acc (x65.set i67.toNat (⟨i66, (x65.getD i67.toNat dacc).node, (x65.getD i67.toNat dacc).write⟩ : Acc)) true]⟩ (by kernel_rfl) ⟨hg87, trivial, trivial⟩ ?_
      refine WO_nil rfl ?_
      refine thenS_n ?_
      refine W_seq ?_
      refine W_region ?_
      refine WO_step 3 [0] [0, 1, 5] (True ∧ True) ⟨[(0, .one (.e (.sl 0 0 k2))), (1, I (w64 (i66 + 1))), (5, I i67)], [.row .acc (x65.set i67.toNat (⟨i66, (x65.getD i67.toNat dacc).node, (x65.getD i67.toNat dacc).write⟩ : Acc)) true]⟩ (by kernel_rfl) ⟨trivial, trivial⟩ ?_
      refine WO_nil rfl ?_
      refine thenS_n ?_
      refine W_seq ?_
      refine W_region ?_
      refine guardO_e h (fun hg88 h => ?_)
      refine WO_step 6 [0] [0, 1, 5] ((0 ≤ i67 ∧ i67 < ((k2 : Nat) : Int)) ∧ (True ∧ True)) ⟨[(0, .one (.e (.sl 0 0 k2))), (1, I (w64 (i66 + 1))), (5, I i67)], [.row .acc ((x65.set i67.toNat (⟨i66, (x65.getD i67.toNat dacc).node, (x65.getD i67.toNat dacc).write⟩ : Acc)).set i67.toNat (⟨((x65.set i67.toNat (⟨i66, (x65.getD i67.toNat dacc).node, (x65.getD i67.toNat dacc).write⟩ : Acc)).getD i67.toNat dacc).who, (w64 (i66 + 1)), ((x65.set i67.toNat (⟨i66, (x65.getD i67.toNat dacc).node, (x65.getD i67.toNat dacc).write⟩ : Acc)).getD i67.toNat dacc).write⟩ : Acc)) true]⟩ (by kernel_rfl) ⟨hg88, trivial, trivial⟩ ?_
      refine WO_nil rfl ?_
      refine thenS_n ?_
      refine W_seq ?_
      refine W_region ?_
      refine WO_step 3 [0] [0, 1, 5] (True ∧ True) ⟨[(0, .one (.e (.sl 0 0 k2))), (1, I (w64 ((w64 (i66 + 1)) + 1))), (5, I i67)], [.row .acc ((x65.set i67.toNat (⟨i66, (x65.getD i67.toNat dacc).node, (x65.getD i67.toNat dacc).write⟩ : Acc)).set i67.toNat (⟨((x65.set i67.toNat (⟨i66, (x65.getD i67.toNat dacc).node, (x65.getD i67.toNat dacc).write⟩ : Acc)).getD i67.toNat dacc).who, (w64 (i66 + 1)), ((x65.set i67.toNat (⟨i66, (x65.getD i67.toNat dacc).node, (x65.getD i67.toNat dacc).write⟩ : Acc)).getD i67.toNat dacc).write⟩ : Acc)) true]⟩ (by kernel_rfl) ⟨trivial, trivial⟩ ?_
      refine WO_nil rfl ?_
      refine thenS_n ?_
      refine W_seq ?_
      refine W_region ?_
      refine guardO_e h (fun hg89 h => ?_)
      refine WO_step 8 [0] [0, 1, 5] (((3 : Int) ≠ 0) ∧ (True ∧ ((0 ≤ i67 ∧ i67 < ((k2 : Nat) : Int)) ∧ (True ∧ True)))) ⟨[(0, .one (.e (.sl 0 0 k2))), (1, I (w64 ((w64 (i66 + 1)) + 1))), (5, I i67)], [.row .acc (((x65.set i67.toNat (⟨i66, (x65.getD i67.toNat dacc).node, (x65.getD i67.toNat dacc).write⟩ : Acc)).set i67.toNat (⟨((x65.set i67.toNat (⟨i66, (x65.getD i67.toNat dacc).node, (x65.getD i67.toNat dacc).write⟩ : Acc)).getD i67.toNat dacc).who, (w64 (i66 + 1)), ((x65.set i67.toNat (⟨i66, (x65.getD i67.toNat dacc).node, (x65.getD i67.toNat dacc).write⟩ : Acc)).getD i67.toNat dacc).write⟩ : Acc)).set i67.toNat (⟨(((x65.set i67.toNat (⟨i66, (x65.getD i67.toNat dacc).node, (x65.getD i67.toNat dacc).write⟩ : Acc)).set i67.toNat (⟨((x65.set i67.toNat (⟨i66, (x65.getD i67.toNat dacc).node, (x65.getD i67.toNat dacc).write⟩ : Acc)).getD i67.toNat dacc).who, (w64 (i66 + 1)), ((x65.set i67.toNat (⟨i66, (x65.getD i67.toNat dacc).node, (x65.getD i67.toNat dacc).write⟩ : Acc)).getD i67.toNat dacc).write⟩ : Acc)).getD i67.toNat dacc).who, (((x65.set i67.toNat (⟨i66, (x65.getD i67.toNat dacc).node, (x65.getD i67.toNat dacc).write⟩ : Acc)).set i67.toNat (⟨((x65.set i67.toNat (⟨i66, (x65.getD i67.toNat dacc).node, (x65.getD i67.toNat dacc).write⟩ : Acc)).getD i67.toNat dacc).who, (w64 (i66 + 1)), ((x65.set i67.toNat (⟨i66, (x65.getD i67.toNat dacc).node, (x65.getD i67.toNat dacc).write⟩ : Acc)).getD i67.toNat dacc).write⟩ : Acc)).getD i67.toNat dacc).node, (decide (((w64 ((w64 (i66 + 1)) + 1)).tmod 3) = 0))⟩ : Acc)) true]⟩ (by kernel_rfl) ⟨(by decide), trivial, hg89, trivial, trivial⟩ ?_
      refine WO_nil rfl ?_
      refine thenS_n ?_
      refine W_region ?_
      refine WO_step 3 [0] [0, 1, 5] (True ∧ True) ⟨[(0, .one (.e (.sl 0 0 k2))), (1, I (w64 ((w64 ((w64 (i66 + 1)) + 1)) + 1))), (5, I i67)], [.row .acc (((x65.set i67.toNat (⟨i66, (x65.getD i67.toNat dacc).node, (x65.getD i67.toNat dacc).write⟩ : Acc)).set i67.toNat (⟨((x65.set i67.toNat (⟨i66, (x65.getD i67.toNat dacc).node, (x65.getD i67.toNat dacc).write⟩ : Acc)).getD i67.toNat dacc).who, (w64 (i66 + 1)), ((x65.set i67.toNat (⟨i66, (x65.getD i67.toNat dacc).node, (x65.getD i67.toNat dacc).write⟩ : Acc)).getD i67.toNat dacc).write⟩ : Acc)).set i67.toNat (⟨(((x65.set i67.toNat (⟨i66, (x65.getD i67.toNat dacc).node, (x65.getD i67.toNat dacc).write⟩ : Acc)).set i67.toNat (⟨((x65.set i67.toNat (⟨i66, (x65.getD i67.toNat dacc).node, (x65.getD i67.toNat dacc).write⟩ : Acc)).getD i67.toNat dacc).who, (w64 (i66 + 1)), ((x65.set i67.toNat (⟨i66, (x65.getD i67.toNat dacc).node, (x65.getD i67.toNat dacc).write⟩ : Acc)).getD i67.toNat dacc).write⟩ : Acc)).getD i67.toNat dacc).who, (((x65.set i67.toNat (⟨i66, (x65.getD i67.toNat dacc).node, (x65.getD i67.toNat dacc).write⟩ : Acc)).set i67.toNat (⟨((x65.set i67.toNat (⟨i66, (x65.getD i67.toNat dacc).node, (x65.getD i67.toNat dacc).write⟩ : Acc)).getD i67.toNat dacc).who, (w64 (i66 + 1)), ((x65.set i67.toNat (⟨i66, (x65.getD i67.toNat dacc).node, (x65.getD i67.toNat dacc).write⟩ : Acc)).getD i67.toNat dacc).write⟩ : Acc)).getD i67.toNat dacc).node, (decide (((w64 ((w64 (i66 + 1)) + 1)).tmod 3) = 0))⟩ : Acc)) true]⟩ (by kernel_rfl) ⟨trivial, trivial⟩ ?_
      refine WO_nil rfl ?_
      refine blockS_n ?_
      refine thenS_n ?_
      refine W_region ?_
      refine WO_step 3 [0] [0, 1, 5] (True ∧ True) ⟨[(0, .one (.e (.sl 0 0 k2))), (1, I (w64 ((w64 ((w64 (i66 + 1)) + 1)) + 1))), (5, I (w64 (i67 + 1)))], [.row .acc (((x65.set i67.toNat (⟨i66, (x65.getD i67.toNat dacc).node, (x65.getD i67.toNat dacc).write⟩ : Acc)).set i67.toNat (⟨((x65.set i67.toNat (⟨i66, (x65.getD i67.toNat dacc).node, (x65.getD i67.toNat dacc).write⟩ : Acc)).getD i67.toNat dacc).who, (w64 (i66 + 1)), ((x65.set i67.toNat (⟨i66, (x65.getD i67.toNat dacc).node, (x65.getD i67.toNat dacc).write⟩ : Acc)).getD i67.toNat dacc).write⟩ : Acc)).set i67.toNat (⟨(((x65.set i67.toNat (⟨i66, (x65.getD i67.toNat dacc).node, (x65.getD i67.toNat dacc).write⟩ : Acc)).set i67.toNat (⟨((x65.set i67.toNat (⟨i66, (x65.getD i67.toNat dacc).node, (x65.getD i67.toNat dacc).write⟩ : Acc)).getD i67.toNat dacc).who, (w64 (i66 + 1)), ((x65.set i67.toNat (⟨i66, (x65.getD i67.toNat dacc).node, (x65.getD i67.toNat dacc).write⟩ : Acc)).getD i67.toNat dacc).write⟩ : Acc)).getD i67.toNat dacc).who, (((x65.set i67.toNat (⟨i66, (x65.getD i67.toNat dacc).node, (x65.getD i67.toNat dacc).write⟩ : Acc)).set i67.toNat (⟨((x65.set i67.toNat (⟨i66, (x65.getD i67.toNat dacc).node, (x65.getD i67.toNat dacc).write⟩ : Acc)).getD i67.toNat dacc).who, (w64 (i66 + 1)), ((x65.set i67.toNat (⟨i66, (x65.getD i67.toNat dacc).node, (x65.getD i67.toNat dacc).write⟩ : Acc)).getD i67.toNat dacc).write⟩ : Acc)).getD i67.toNat dacc).node, (decide (((w64 ((w64 (i66 + 1)) + 1)).tmod 3) = 0))⟩ : Acc)) true]⟩ (by kernel_rfl) ⟨trivial, trivial⟩ ?_
      refine WO_nil rfl ?_
      refine thenS_n ?_
      exact ih _ _ _ h
    · refine W_sub [0] [1] (st' := ⟨[(1, I i66)], [.row .acc x65 true]⟩) (by kernel_rfl) ?_
      refine W_exit ?_
      refine thenS_e ?_
      refine thenS_e ?_
      cases h
      exact And.intro rfl rfl

def laws_markAccessS (n : Nat) (x1 : List Acc) (k2 : Nat) (i3 : Int) : Option ((List Acc) × Int) :=
 bindO (laws_markAccessS_L1 k2 n x1 i3 0) fun v90 =>
 match v90 with
 | (x79, i80) => (some (x79, i80))


theorem laws_markAccessS_ok (n : Nat) (x1 : List Acc) (k2 : Nat) (i3 : Int) (x46 : List Acc) (i47 : Int) (h : laws_markAccessS n x1 k2 i3 = some (x46, i47)) : FOk EE 28 [.one (.e (.sl 0 0 k2)), I i3] [.row .acc x1 true] (I i47) [.row .acc x46 true] := by
  unfold laws_markAccessS at h
  refine FOk_of_W 36 1 Try.func28 rfl rfl (Nat.le_of_ble_eq_true rfl) rfl (fun w X θ => ?_)
  refine W_seq ?_
  refine W_region ?_
  refine WO_step 1 [0] [0, 1] True ⟨[(0, .one (.e (.sl 0 0 k2))), (1, I i3)], [.row .acc x1 true]⟩ (by kernel_rfl) trivial ?_
  refine WO_nil rfl ?_
  refine thenS_n ?_
  refine W_seq ?_
  refine W_seq ?_
  refine W_region ?_
  refine WO_step 1 [0] [0, 1, 5] True ⟨[(0, .one (.e (.sl 0 0 k2))), (1, I i3), (5, I 0)], [.row .acc x1 true]⟩ (by kernel_rfl) trivial ?_
  refine WO_nil rfl ?_
  refine thenS_n ?_
  refine W_block ?_
  refine W_loop ?_
  refine bindO_e h (fun v90 hv90 h => ?_)
  refine WL_cut (laws_markAccessS_L1_ok w X θ k2 v90 n x1 i3 0 hv90) ?_
  obtain ⟨x79, i80⟩ := v90
  rintro _ _ ⟨rfl, rfl⟩
  refine blockS_y ?_
  refine thenS_n ?_
  refine W_seq ?_
  refine W_region ?_
  refine WO_step 2 [0] [4] True ⟨[(4, I i80)], [.row .acc x79 true]⟩ (by kernel_rfl) trivial ?_
  refine WO_nil rfl ?_
  refine thenS_n ?_
  refine W_ret ?_
  cases h
  exact ⟨[0], True, by kernel_rfl, trivial⟩

/- laws.markIntS -/
def laws_markIntS_L1 (k2 : Nat) : Nat → (List Int) → Int → Int → Option (((List Int) × Int))
| 0, _, _, _ => none
| n + 1, x49, i50, i51 =>
 iteO (decide (i51 < ((k2 : Nat) : Int)))
 (guardO (0 ≤ i51 ∧ i51 < ((k2 : Nat) : Int)) <|
 laws_markIntS_L1 k2 n (x49.set i51.toNat i50) (w64 (i50 + 1)) (w64 (i51 + 1)))
 (some (x49, i50))

theorem laws_markIntS_L1_ok (w : World) (X : Nat → Prop) (θ : List Loc) (k2 : Nat) (v : ((List Int) × Int)) : ∀ (n : Nat) (x49 : List Int) (i50 : Int) (i51 : Int), laws_markIntS_L1 k2 n x49 i50 i51 = some v → WL EE ⟨w, X, θ, 19, 1⟩ (subC [1, 0, 1, 4, 4] (bodyC Try.f29)) (fun (e : Exit) (s : St) => (match v with | (x59, i60) => e = .exit 0 ∧ s = ⟨[(1, I i60)], [.row .int x59 true]⟩ : Prop)) ⟨[(0, .one (.e (.sl 0 0 k2))), (1, I i50), (5, I i51)], [.row .int x49 true]⟩ := by
  intro n
  induction n with
  | zero => intro _ _ _ h; exact none_e h
  | succ n ih =>
    intro x49 i50 i51 h
    rw [laws_markIntS_L1] at h
    refine WL_round ?_
    refine W_seq ?_
    refine W_seq ?_
    refine W_region ?_
    refine WO_step 4 [0] [0, 1, 5, 9] (True ∧ (True ∧ True)) ⟨[(0, .one (.e (.sl 0 0 k2))), (1, I i50), (5, I i51), (9, B (decide (i51 < ((k2 : Nat) : Int))))], [.row .int x49 true]⟩ (by kernel_rfl) ⟨trivial, trivial, trivial⟩ ?_
    refine WO_nil rfl ?_
    refine thenS_n ?_
    refine iteO_e h (fun hb63 h => W_true rfl hb63 ?_) (fun hb63 h => W_false rfl hb63 ?_)
    · refine W_sub [0] [0, 1, 5] (st' := ⟨[(0, .one (.e (.sl 0 0 k2))), (1, I i50), (5, I i51)], [.row .int x49 true]⟩) (by kernel_rfl) ?_
      refine W_skip ?_
      refine thenS_n ?_
      refine W_seq ?_
      refine W_block ?_
      refine W_seq ?_
      refine W_region ?_
      refine guardO_e h (fun hg65 h => ?_)
      refine WO_step 5 [0] [0, 1, 5] ((0 ≤ i51 ∧ i51 < ((k2 : Nat) : Int)) ∧ (True ∧ True)) ⟨[(0, .one (.e (.sl 0 0 k2))), (1, I i50), (5, I i51)], [.row .int (x49.set i51.toNat i50) true]⟩ (by kernel_rfl) ⟨hg65, trivial, trivial⟩ ?_
      refine WO_nil rfl ?_
      refine thenS_n ?_
      refine W_region ?_
      refine WO_step 3 [0] [0, 1, 5] (True ∧ True) ⟨[(0, .one (.e (.sl 0 0 k2))), (1, I (w64 (i50 + 1))), (5, I i51)], [.row .int (x49.set i51.toNat i50) true]⟩ (by kernel_rfl) ⟨trivial, trivial⟩ ?_
      refine WO_nil rfl ?_
      refine blockS_n ?_
      refine thenS_n ?_
      refine W_region ?_
      refine WO_step 3 [0] [0, 1, 5] (True ∧ True) ⟨[(0, .one (.e (.sl 0 0 k2))), (1, I (w64 (i50 + 1))), (5, I (w64 (i51 + 1)))], [.row .int (x49.set i51.toNat i50) true]⟩ (by kernel_rfl) ⟨trivial, trivial⟩ ?_
      refine WO_nil rfl ?_
      refine thenS_n ?_
      exact ih _ _ _ h
    · refine W_sub [0] [1] (st' := ⟨[(1, I i50)], [.row .int x49 true]⟩) (by kernel_rfl) ?_
      refine W_exit ?_
      refine thenS_e ?_
      refine thenS_e ?_
      cases h
      exact And.intro rfl rfl

def laws_markIntS (n : Nat) (x1 : List Int) (k2 : Nat) (i3 : Int) : Option ((List Int) × Int) :=
 bindO (laws_markIntS_L1 k2 n x1 i3 0) fun v66 =>
 match v66 with
 | (x59, i60) => (some (x59, i60))


theorem laws_markIntS_ok (n : Nat) (x1 : List Int) (k2 : Nat) (i3 : Int) (x34 : List Int) (i35 : Int) (h : laws_markIntS n x1 k2 i3 = some (x34, i35)) : FOk EE 29 [.one (.e (.sl 0 0 k2)), I i3] [.row .int x1 true] (I i35) [.row .int x34 true] := by
  unfold laws_markIntS at h
  refine FOk_of_W 19 1 Try.func29 rfl rfl (Nat.le_of_ble_eq_true rfl) rfl (fun w X θ => ?_)
  refine W_seq ?_
  refine W_region ?_
  refine WO_step 1 [0] [0, 1] True ⟨[(0, .one (.e (.sl 0 0 k2))), (1, I i3)], [.row .int x1 true]⟩ (by kernel_rfl) trivial ?_
  refine WO_nil rfl ?_
  refine thenS_n ?_
  refine W_seq ?_
  refine W_seq ?_
  refine W_region ?_
  refine WO_step 1 [0] [0, 1, 5] True ⟨[(0, .one (.e (.sl 0 0 k2))), (1, I i3), (5, I 0)], [.row .int x1 true]⟩ (by kernel_rfl) trivial ?_
  refine WO_nil rfl ?_
  refine thenS_n ?_
  refine W_block ?_
  refine W_loop ?_
  refine bindO_e h (fun v66 hv66 h => ?_)
  refine WL_cut (laws_markIntS_L1_ok w X θ k2 v66 n x1 i3 0 hv66) ?_
  obtain ⟨x59, i60⟩ := v66
  rintro _ _ ⟨rfl, rfl⟩
  refine blockS_y ?_
  refine thenS_n ?_
  refine W_seq ?_
  refine W_region ?_
  refine WO_step 2 [0] [4] True ⟨[(4, I i60)], [.row .int x59 true]⟩ (by kernel_rfl) trivial ?_
  refine WO_nil rfl ?_
  refine thenS_n ?_
  refine W_ret ?_
  cases h
  exact ⟨[0], True, by kernel_rfl, trivial⟩

/- laws.heldIntS -/
def laws_heldIntS_L1 (x1 : List Int) : Nat → Int → Int → Option ((Unit) ⊕ (Int))
| 0, _, _ => none
| n + 1, i54, i55 =>
 iteO (decide (i55 < ((x1.length : Nat) : Int)))
 (guardO (0 ≤ i55 ∧ i55 < ((x1.length : Nat) : Int)) <|
 iteO (!decide ((x1.getD i55.toNat 0) = i54))
 (some (.inl ()))
 (laws_heldIntS_L1 x1 n (w64 (i54 + 1)) (w64 (i55 + 1))))
 (some (.inr i54))

theorem laws_heldIntS_L1_ok (w : World) (X : Nat → Prop) (θ : List Loc) (x1 : List Int) (v : (Unit) ⊕ (Int)) : ∀ (n : Nat) (i54 : Int) (i55 : Int), laws_heldIntS_L1 x1 n i54 i55 = some v → WL EE ⟨w, X, θ, 21, 1⟩ (subC [1, 0, 1, 4, 4] (bodyC Try.f30)) (fun (e : Exit) (s : St) => (match v with | (.inl _) => e = .ret ∧ s = ⟨[(4, I (-1))], [.row .int x1 false]⟩ | (.inr i66) => e = .exit 0 ∧ s = ⟨[(1, I i66)], [.row .int x1 false]⟩ : Prop)) ⟨[(0, .one (.e (.sl 0 0 x1.length))), (1, I i54), (5, I i55)], [.row .int x1 false]⟩ := by
  intro n
  induction n with
  | zero => intro _ _ h; exact none_e h
  | succ n ih =>
    intro i54 i55 h
    rw [laws_heldIntS_L1] at h
    refine WL_round ?_
    refine W_seq ?_
    refine W_seq ?_
    refine W_region ?_
    refine WO_step 4 [0] [0, 1, 5, 9] (True ∧ (True ∧ True)) ⟨[(0, .one (.e (.sl 0 0 x1.length))), (1, I i54), (5, I i55), (9, B (decide (i55 < ((x1.length : Nat) : Int))))], [.row .int x1 false]⟩ (by kernel_rfl) ⟨trivial, trivial, trivial⟩ ?_
    refine WO_nil rfl ?_
    refine thenS_n ?_
    refine iteO_e h (fun hb69 h => W_true rfl hb69 ?_) (fun hb69 h => W_false rfl hb69 ?_)
    · refine W_sub [0] [0, 1, 5] (st' := ⟨[(0, .one (.e (.sl 0 0 x1.length))), (1, I i54), (5, I i55)], [.row .int x1 false]⟩) (by kernel_rfl) ?_
      refine W_skip ?_
      refine thenS_n ?_
      refine W_seq ?_
      refine W_block ?_
      refine W_seq ?_
      refine W_seq ?_
      refine W_region ?_
      refine guardO_e h (fun hg73 h => ?_)
      refine WO_step 6 [0] [0, 1, 5, 17] ((0 ≤ i55 ∧ i55 < ((x1.length : Nat) : Int)) ∧ (True ∧ (True ∧ True))) ⟨[(0, .one (.e (.sl 0 0 x1.length))), (1, I i54), (5, I i55), (17, B (!decide ((x1.getD i55.toNat 0) = i54)))], [.row .int x1 false]⟩ (by kernel_rfl) ⟨hg73, trivial, trivial, trivial⟩ ?_
      refine WO_nil rfl ?_
      refine thenS_n ?_
      refine iteO_e h (fun hb75 h => W_true rfl hb75 ?_) (fun hb75 h => W_false rfl hb75 ?_)
      · refine W_seq ?_
        refine W_region ?_
        refine WO_step 1 [0] [4] True ⟨[(4, I (-1))], [.row .int x1 false]⟩ (by kernel_rfl) trivial ?_
        refine WO_nil rfl ?_
        refine thenS_n ?_
        refine W_ret ?_
        refine thenS_r ?_
        refine blockS_r ?_
        refine thenS_r ?_
        refine thenS_r ?_
        cases h
        exact And.intro rfl rfl
      · refine W_sub [0] [0, 1, 5] (st' := ⟨[(0, .one (.e (.sl 0 0 x1.length))), (1, I i54), (5, I i55)], [.row .int x1 false]⟩) (by kernel_rfl) ?_
        refine W_skip ?_
        refine thenS_n ?_
        refine W_region ?_
        refine WO_step 3 [0] [0, 1, 5] (True ∧ True) ⟨[(0, .one (.e (.sl 0 0 x1.length))), (1, I (w64 (i54 + 1))), (5, I i55)], [.row .int x1 false]⟩ (by kernel_rfl) ⟨trivial, trivial⟩ ?_
        refine WO_nil rfl ?_
        refine blockS_n ?_
        refine thenS_n ?_
        refine W_region ?_
        refine WO_step 3 [0] [0, 1, 5] (True ∧ True) ⟨[(0, .one (.e (.sl 0 0 x1.length))), (1, I (w64 (i54 + 1))), (5, I (w64 (i55 + 1)))], [.row .int x1 false]⟩ (by kernel_rfl) ⟨trivial, trivial⟩ ?_
        refine WO_nil rfl ?_
        refine thenS_n ?_
        exact ih _ _ h
    · refine W_sub [0] [1] (st' := ⟨[(1, I i54)], [.row .int x1 false]⟩) (by kernel_rfl) ?_
      refine W_exit ?_
      refine thenS_e ?_
      refine thenS_e ?_
      cases h
      exact And.intro rfl rfl

def laws_heldIntS (n : Nat) (x1 : List Int) (i2 : Int) : Option (Int) :=
 bindO (laws_heldIntS_L1 x1 n i2 0) fun v76 =>
 match v76 with
 | (.inl _) => (some (-1))
 | (.inr i66) => (some i66)


theorem laws_heldIntS_ok (n : Nat) (x1 : List Int) (i2 : Int) (i39 : Int) (h : laws_heldIntS n x1 i2 = some i39) : FOk EE 30 [.one (.e (.sl 0 0 x1.length)), I i2] [.row .int x1 false] (I i39) [.row .int x1 false] := by
  unfold laws_heldIntS at h
  refine FOk_of_W 21 1 Try.func30 rfl rfl (Nat.le_of_ble_eq_true rfl) rfl (fun w X θ => ?_)
  refine W_seq ?_
  refine W_region ?_
  refine WO_step 1 [0] [0, 1] True ⟨[(0, .one (.e (.sl 0 0 x1.length))), (1, I i2)], [.row .int x1 false]⟩ (by kernel_rfl) trivial ?_
  refine WO_nil rfl ?_
  refine thenS_n ?_
  refine W_seq ?_
  refine W_seq ?_
  refine W_region ?_
  refine WO_step 1 [0] [0, 1, 5] True ⟨[(0, .one (.e (.sl 0 0 x1.length))), (1, I i2), (5, I 0)], [.row .int x1 false]⟩ (by kernel_rfl) trivial ?_
  refine WO_nil rfl ?_
  refine thenS_n ?_
  refine W_block ?_
  refine W_loop ?_
  refine bindO_e h (fun v76 hv76 h => ?_)
  refine WL_cut (laws_heldIntS_L1_ok w X θ x1 v76 n i2 0 hv76) ?_
  rcases v76 with _ | i66
  · rintro _ _ ⟨rfl, rfl⟩
    refine blockS_r ?_
    refine thenS_r ?_
    cases h
    exact ⟨[0], True, by kernel_rfl, trivial⟩
  · rintro _ _ ⟨rfl, rfl⟩
    refine blockS_y ?_
    refine thenS_n ?_
    refine W_seq ?_
    refine W_region ?_
    refine WO_step 2 [0] [4] True ⟨[(4, I i66)], [.row .int x1 false]⟩ (by kernel_rfl) trivial ?_
    refine WO_nil rfl ?_
    refine thenS_n ?_
    refine W_ret ?_
    cases h
    exact ⟨[0], True, by kernel_rfl, trivial⟩

/- laws.FnExactReadsFrom -/
def laws_FnExactReadsFrom (n : Nat) (x1 : List Acc) (i2 : Int) : Option (Bool) :=
 bindO (laws_szAccessS x1 1048576) fun i66 =>
 iteO (decide (i66 < 0))
 (some true)
 (bindO (laws_toAccessS n x1) fun x70 =>
 bindO (spec_ReadsFrom n x70 i2) fun x72 =>
 bindO (laws_toAccessS n x1) fun x74 =>
 bindO (impl_ReadsFrom n x74 i2) fun x76 =>
 bindO (laws_eqIntS n x76 x72) fun b78 =>
 iteO (!b78)
 (some false)
 (bindO (laws_toAccessS n x1) fun x82 =>
 bindO (laws_eqAccessS n x74 x82) fun b84 =>
 iteO (!b84)
 (some false)
 (bindO (laws_markAccessS n x74 x74.length 1) fun (x88, i89) =>
 guardO (x74.length = x88.length) <|
 bindO (iteO (decide (i89 < 0))
 (some true)
 (bindO (laws_eqIntS n x76 x72) fun b98 =>
 some (!b98))) fun b95 =>
 iteO b95
 (some false)
 (bindO (laws_markIntS n x76 x76.length 1) fun (x102, i103) =>
 guardO (x76.length = x102.length) <|
 bindO (laws_heldIntS n x102 1) fun i106 =>
 iteO (decide (i106 < 0))
 (some false)
 (iteO (!decide (i106 = i103))
 (some false)
 (bindO (laws_toAccessS n x1) fun x112 =>
 bindO (impl_ReadsFrom n x112 i2) fun x114 =>
 bindO (laws_eqIntS n x114 x72) fun b116 =>
 iteO (!b116)
 (some false)
 (bindO (laws_heldIntS n x102 1) fun i120 =>
 iteO (decide (i120 < 0))
 (some false)
 (iteO (!decide (i120 = i103))
 (some false)
 (some true)))))))))

theorem laws_FnExactReadsFrom_ok (n : Nat) (x1 : List Acc) (i2 : Int) (b65 : Bool) (h : laws_FnExactReadsFrom n x1 i2 = some b65) : FOk EE 8 [.one (.e (.sl 0 0 x1.length)), I i2] [.row .acc x1 false] (B b65) [.row .acc x1 false] := by
  unfold laws_FnExactReadsFrom at h
  refine FOk_of_W 74 1 Try.func8 rfl rfl (Nat.le_of_ble_eq_true rfl) rfl (fun w X θ => ?_)
  refine W_seq ?_
  refine W_region ?_
  refine WO_step 1 [0] [0, 1] True ⟨[(0, .one (.e (.sl 0 0 x1.length))), (1, I i2)], [.row .acc x1 false]⟩ (by kernel_rfl) trivial ?_
  refine WO_nil rfl ?_
  refine thenS_n ?_
  refine W_seq ?_
  refine W_region ?_
  refine WO_step 1 [0] [0, 1, 5] True ⟨[(0, .one (.e (.sl 0 0 x1.length))), (1, I i2), (5, I 1048576)], [.row .acc x1 false]⟩ (by kernel_rfl) trivial ?_
  refine WO_nil rfl ?_
  refine thenS_n ?_
  refine W_seq ?_
  refine W_region ?_
  refine WO_step 2 [0] [0, 1, 13, 14] True ⟨[(0, .one (.e (.sl 0 0 x1.length))), (1, I i2), (13, .one (.e (.sl 0 0 x1.length))), (14, I 1048576)], [.row .acc x1 false]⟩ (by kernel_rfl) trivial ?_
  refine bindO_e h (fun i66 hc67 h => ?_)
  refine WO_call [.ro 0] Try.f24 rfl rfl rfl (by kernel_rfl) rfl rfl (by kernel_rfl) (laws_szAccessS_ok x1 1048576 i66 hc67) (And.intro (And.intro rfl rfl) (trivial)) rfl ?_
  refine WO_step 1 [0] [0, 1, 5] True ⟨[(0, .one (.e (.sl 0 0 x1.length))), (1, I i2), (5, I i66)], [.row .acc x1 false]⟩ (by kernel_rfl) trivial ?_
  refine WO_nil rfl ?_
  refine thenS_n ?_
  refine W_seq ?_
  refine W_seq ?_
  refine W_region ?_
  refine WO_step 2 [0] [0, 1, 17] (True ∧ True) ⟨[(0, .one (.e (.sl 0 0 x1.length))), (1, I i2), (17, B (decide (i66 < 0)))], [.row .acc x1 false]⟩ (by kernel_rfl) ⟨trivial, trivial⟩ ?_
  refine WO_nil rfl ?_
  refine thenS_n ?_
  refine iteO_e h (fun hb69 h => W_true rfl hb69 ?_) (fun hb69 h => W_false rfl hb69 ?_)
  · refine W_seq ?_
    refine W_region ?_
    refine WO_step 1 [0] [4] True ⟨[(4, B true)], [.row .acc x1 false]⟩ (by kernel_rfl) trivial ?_
    refine WO_nil rfl ?_
    refine thenS_n ?_
    refine W_ret ?_
    refine thenS_r ?_
    cases h
    exact ⟨[0], True, by kernel_rfl, trivial⟩
  · refine W_sub [0] [0, 1] (st' := ⟨[(0, .one (.e (.sl 0 0 x1.length))), (1, I i2)], [.row .acc x1 false]⟩) (by kernel_rfl) ?_
    refine W_skip ?_
    refine thenS_n ?_
    refine W_seq ?_
    refine W_region ?_
    refine WO_step 1 [0] [0, 1, 18] True ⟨[(0, .one (.e (.sl 0 0 x1.length))), (1, I i2), (18, .one (.e (.sl 0 0 x1.length)))], [.row .acc x1 false]⟩ (by kernel_rfl) trivial ?_
    refine bindO_e h (fun x70 hc71 h => ?_)
    refine WO_call [.ro 0] Try.f25 rfl rfl rfl (by kernel_rfl) rfl rfl (by kernel_rfl) (laws_toAccessS_ok n x1 x70 hc71) (And.intro (And.intro rfl rfl) (trivial)) rfl ?_
    refine WO_step 1 [0, 1] [0, 1, 19, 20] True ⟨[(0, .one (.e (.sl 0 0 x1.length))), (1, I i2), (19, .one (.e (.sl 1 0 x70.length))), (20, I i2)], [.row .acc x1 false, .row .acc x70 true]⟩ (by kernel_rfl) trivial ?_
    refine bindO_e h (fun x72 hc73 h => ?_)
    refine WO_call [.ro 1] Try.f18 rfl rfl rfl (by kernel_rfl) rfl rfl (by kernel_rfl) (spec_ReadsFrom_ok n x70 i2 x72 hc73) (And.intro (And.intro rfl rfl) (trivial)) rfl ?_
    refine WO_step 1 [0, 2] [0, 1, 6] True ⟨[(0, .one (.e (.sl 0 0 x1.length))), (1, I i2), (6, .one (.e (.sl 1 0 x72.length)))], [.row .acc x1 false, .row .int x72 true]⟩ (by kernel_rfl) trivial ?_
    refine WO_nil rfl ?_
    refine thenS_n ?_
    refine W_seq ?_
    refine W_region ?_
    refine WO_step 1 [0, 1] [0, 1, 6, 22] True ⟨[(0, .one (.e (.sl 0 0 x1.length))), (1, I i2), (6, .one (.e (.sl 1 0 x72.length))), (22, .one (.e (.sl 0 0 x1.length)))], [.row .acc x1 false, .row .int x72 true]⟩ (by kernel_rfl) trivial ?_
    refine bindO_e h (fun x74 hc75 h => ?_)
    refine WO_call [.ro 0] Try.f25 rfl rfl rfl (by kernel_rfl) rfl rfl (by kernel_rfl) (laws_toAccessS_ok n x1 x74 hc75) (And.intro (And.intro rfl rfl) (trivial)) rfl ?_
    refine WO_step 1 [0, 1, 2] [0, 1, 6, 7] True ⟨[(0, .one (.e (.sl 0 0 x1.length))), (1, I i2), (6, .one (.e (.sl 1 0 x72.length))), (7, .one (.e (.sl 2 0 x74.length)))], [.row .acc x1 false, .row .int x72 true, .row .acc x74 true]⟩ (by kernel_rfl) trivial ?_
    refine WO_nil rfl ?_
    refine thenS_n ?_
    refine W_seq ?_
    refine W_region ?_
    refine WO_step 2 [0, 1, 2] [0, 1, 6, 7, 24, 25] True ⟨[(0, .one (.e (.sl 0 0 x1.length))), (1, I i2), (6, .one (.e (.sl 1 0 x72.length))), (7, .one (.e (.sl 2 0 x74.length))), (24, .one (.e (.sl 2 0 x74.length))), (25, I i2)], [.row .acc x1 false, .row .int x72 true, .row .acc x74 true]⟩ (by kernel_rfl) trivial ?_
    refine bindO_e h (fun x76 hc77 h => ?_)
    refine WO_call [.ro 2] Try.f16 rfl rfl rfl (by kernel_rfl) rfl rfl (by kernel_rfl) (impl_ReadsFrom_ok n x74 i2 x76 hc77) (And.intro (And.intro rfl rfl) (trivial)) rfl ?_
    refine WO_step 1 [0, 1, 2, 3] [0, 1, 6, 7, 8] True ⟨[(0, .one (.e (.sl 0 0 x1.length))), (1, I i2), (6, .one (.e (.sl 1 0 x72.length))), (7, .one (.e (.sl 2 0 x74.length))), (8, .one (.e (.sl 3 0 x76.length)))], [.row .acc x1 false, .row .int x72 true, .row .acc x74 true, .row .int x76 true]⟩ (by kernel_rfl) trivial ?_
    refine WO_nil rfl ?_
    refine thenS_n ?_
    refine W_seq ?_
    refine W_seq ?_
    refine W_region ?_
    refine WO_step 2 [0, 1, 2, 3] [0, 1, 6, 7, 8, 27, 28] True ⟨[(0, .one (.e (.sl 0 0 x1.length))), (1, I i2), (6, .one (.e (.sl 1 0 x72.length))), (7, .one (.e (.sl 2 0 x74.length))), (8, .one (.e (.sl 3 0 x76.length))), (27, .one (.e (.sl 3 0 x76.length))), (28, .one (.e (.sl 1 0 x72.length)))], [.row .acc x1 false, .row .int x72 true, .row .acc x74 true, .row .int x76 true]⟩ (by kernel_rfl) trivial ?_
    refine bindO_e h (fun b78 hc79 h => ?_)
    refine WO_call [.ro 3, .ro 1] Try.f26 rfl rfl rfl (by kernel_rfl) rfl rfl (by kernel_rfl) (laws_eqIntS_ok n x76 x72 b78 hc79) (And.intro (And.intro rfl rfl) (And.intro (And.intro rfl rfl) (trivial))) rfl ?_
    refine WO_step 1 [0, 1, 2, 3] [0, 1, 6, 7, 8, 30] True ⟨[(0, .one (.e (.sl 0 0 x1.length))), (1, I i2), (6, .one (.e (.sl 1 0 x72.length))), (7, .one (.e (.sl 2 0 x74.length))), (8, .one (.e (.sl 3 0 x76.length))), (30, B (!b78))], [.row .acc x1 false, .row .int x72 true, .row .acc x74 true, .row .int x76 true]⟩ (by kernel_rfl) trivial ?_
    refine WO_nil rfl ?_
    refine thenS_n ?_
    refine iteO_e h (fun hb81 h => W_true rfl hb81 ?_) (fun hb81 h => W_false rfl hb81 ?_)
    · refine W_seq ?_
      refine W_region ?_
      refine WO_step 1 [0] [4] True ⟨[(4, B false)], [.row .acc x1 false]⟩ (by kernel_rfl) trivial ?_
      refine WO_nil rfl ?_
      refine thenS_n ?_
      refine W_ret ?_
      refine thenS_r ?_
      cases h
      exact ⟨[0], True, by kernel_rfl, trivial⟩
    · refine W_sub [0, 1, 2, 3] [0, 1, 6, 7, 8] (st' := ⟨[(0, .one (.e (.sl 0 0 x1.length))), (1, I i2), (6, .one (.e (.sl 1 0 x72.length))), (7, .one (.e (.sl 2 0 x74.length))), (8, .one (.e (.sl 3 0 x76.length)))], [.row .acc x1 false, .row .int x72 true, .row .acc x74 true, .row .int x76 true]⟩) (by kernel_rfl) ?_
      refine W_skip ?_
      refine thenS_n ?_
      refine W_seq ?_
      refine W_seq ?_
      refine W_region ?_
      refine WO_step 2 [0, 1, 2, 3] [0, 1, 6, 7, 8, 31, 32] True ⟨[(0, .one (.e (.sl 0 0 x1.length))), (1, I i2), (6, .one (.e (.sl 1 0 x72.length))), (7, .one (.e (.sl 2 0 x74.length))), (8, .one (.e (.sl 3 0 x76.length))), (31, .one (.e (.sl 2 0 x74.length))), (32, .one (.e (.sl 0 0 x1.length)))], [.row .acc x1 false, .row .int x72 true, .row .acc x74 true, .row .int x76 true]⟩ (by kernel_rfl) trivial ?_
      refine bindO_e h (fun x82 hc83 h => ?_)
      refine WO_call [.ro 0] Try.f25 rfl rfl rfl (by kernel_rfl) rfl rfl (by kernel_rfl) (laws_toAccessS_ok n x1 x82 hc83) (And.intro (And.intro rfl rfl) (trivial)) rfl ?_
      refine WO_sub [0, 1, 2, 3, 4] [0, 1, 6, 7, 8, 31, 33] (st' := ⟨[(0, .one (.e (.sl 0 0 x1.length))), (1, I i2), (6, .one (.e (.sl 1 0 x72.length))), (7, .one (.e (.sl 2 0 x74.length))), (8, .one (.e (.sl 3 0 x76.length))), (31, .one (.e (.sl 2 0 x74.length))), (33, .one (.e (.sl 4 0 x82.length)))], [.row .acc x1 false, .row .int x72 true, .row .acc x74 true, .row .int x76 true, .row .acc x82 true]⟩) (by kernel_rfl) ?_
      refine bindO_e h (fun b84 hc85 h => ?_)
      refine WO_call [.ro 2, .ro 4] Try.f27 rfl rfl rfl (by kernel_rfl) rfl rfl (by kernel_rfl) (laws_eqAccessS_ok n x74 x82 b84 hc85) (And.intro (And.intro rfl rfl) (And.intro (And.intro rfl rfl) (trivial))) rfl ?_
      refine WO_step 1 [0, 1, 2, 3] [0, 1, 6, 7, 8, 35] True ⟨[(0, .one (.e (.sl 0 0 x1.length))), (1, I i2), (6, .one (.e (.sl 1 0 x72.length))), (7, .one (.e (.sl 2 0 x74.length))), (8, .one (.e (.sl 3 0 x76.length))), (35, B (!b84))], [.row .acc x1 false, .row .int x72 true, .row .acc x74 true, .row .int x76 true]⟩ (by kernel_rfl) trivial ?_
      refine WO_nil rfl ?_
      refine thenS_n ?_
      refine iteO_e h (fun hb87 h => W_true rfl hb87 ?_) (fun hb87 h => W_false rfl hb87 ?_)
      · refine W_seq ?_
        refine W_region ?_
        refine WO_step 1 [0] [4] True ⟨[(4, B false)], [.row .acc x1 false]⟩ (by kernel_rfl) trivial ?_
        refine WO_nil rfl ?_
        refine thenS_n ?_
        refine W_ret ?_
        refine thenS_r ?_
        cases h
        exact ⟨[0], True, by kernel_rfl, trivial⟩
      · refine W_sub [0, 1, 2, 3] [0, 1, 6, 7, 8] (st' := ⟨[(0, .one (.e (.sl 0 0 x1.length))), (1, I i2), (6, .one (.e (.sl 1 0 x72.length))), (7, .one (.e (.sl 2 0 x74.length))), (8, .one (.e (.sl 3 0 x76.length)))], [.row .acc x1 false, .row .int x72 true, .row .acc x74 true, .row .int x76 true]⟩) (by kernel_rfl) ?_
        refine W_skip ?_
        refine thenS_n ?_
        refine W_seq ?_
        refine W_region ?_
        refine WO_step 1 [0, 1, 2, 3] [0, 1, 6, 7, 8, 9] True ⟨[(0, .one (.e (.sl 0 0 x1.length))), (1, I i2), (6, .one (.e (.sl 1 0 x72.length))), (7, .one (.e (.sl 2 0 x74.length))), (8, .one (.e (.sl 3 0 x76.length))), (9, I 1)], [.row .acc x1 false, .row .int x72 true, .row .acc x74 true, .row .int x76 true]⟩ (by kernel_rfl) trivial ?_
        refine WO_nil rfl ?_
        refine thenS_n ?_
        refine W_seq ?_
        refine W_region ?_
        refine WO_step 2 [0, 1, 3, 2] [0, 1, 6, 8, 36, 37] True ⟨[(0, .one (.e (.sl 0 0 x1.length))), (1, I i2), (6, .one (.e (.sl 1 0 x72.length))), (8, .one (.e (.sl 2 0 x76.length))), (36, .one (.e (.sl 3 0 x74.length))), (37, I 1)], [.row .acc x1 false, .row .int x72 true, .row .int x76 true, .row .acc x74 true]⟩ (by kernel_rfl) trivial ?_
        refine bindO_e h (fun v127 hc90 h => ?_)
        obtain ⟨x88, i89⟩ := v127
        refine guardO_e h (fun hl91 h => ?_)
        refine WO_call [.own 3] Try.f28 rfl rfl rfl (by kernel_rfl) rfl rfl (by kernel_rfl) (laws_markAccessS_ok n x74 x74.length 1 x88 i89 hc90) (And.intro (And.intro rfl (And.intro rfl hl91)) (trivial)) rfl ?_
        refine WO_sub [0, 1, 2, 3] [0, 1, 6, 8, 36, 37, 38] (st' := ⟨[(0, .one (.e (.sl 0 0 x1.length))), (1, I i2), (6, .one (.e (.sl 1 0 x72.length))), (8, .one (.e (.sl 2 0 x76.length))), (36, .one (.e (.sl 3 0 x74.length))), (37, I 1), (38, I i89)], [.row .acc x1 false, .row .int x72 true, .row .int x76 true, .row .acc x88 true]⟩) (by kernel_rfl) ?_
        refine WO_eq (st' := ⟨[(0, .one (.e (.sl 0 0 x1.length))), (1, I i2), (6, .one (.e (.sl 1 0 x72.length))), (8, .one (.e (.sl 2 0 x76.length))), (36, .one (.e (.sl 3 0 x88.length))), (37, I 1), (38, I i89)], [.row .acc x1 false, .row .int x72 true, .row .int x76 true, .row .acc x88 true]⟩) (by simp only [hl91]) ?_
        refine WO_step 1 [0, 1, 2] [0, 1, 6, 8, 9] True ⟨[(0, .one (.e (.sl 0 0 x1.length))), (1, I i2), (6, .one (.e (.sl 1 0 x72.length))), (8, .one (.e (.sl 2 0 x76.length))), (9, I i89)], [.row .acc x1 false, .row .int x72 true, .row .int x76 true]⟩ (by kernel_rfl) trivial ?_
        refine WO_nil rfl ?_
        refine thenS_n ?_
        refine W_seq ?_
        refine W_seq ?_
        refine W_region ?_
        refine WO_step 3 [0, 1, 2] [0, 1, 6, 8, 41] (True ∧ True) ⟨[(0, .one (.e (.sl 0 0 x1.length))), (1, I i2), (6, .one (.e (.sl 1 0 x72.length))), (8, .one (.e (.sl 2 0 x76.length))), (41, B (decide (i89 < 0)))], [.row .acc x1 false, .row .int x72 true, .row .int x76 true]⟩ (by kernel_rfl) ⟨trivial, trivial⟩ ?_
        refine bindO_e h (fun b95 hv96 h => ?_)
        refine WO_thru ⟨[(0, .one (.e (.sl 0 0 x1.length))), (1, I i2), (6, .one (.e (.sl 1 0 x72.length))), (8, .one (.e (.sl 2 0 x76.length))), (46, B b95)], [.row .acc x1 false, .row .int x72 true, .row .int x76 true]⟩ ?_ ?_
        · refine iteO_e hv96 (fun hb97 hv96 => WO_known 41 true rfl hb97 ?_) (fun hb97 hv96 => WO_known 41 false rfl hb97 ?_)
          · refine WO_step 5 [0, 1, 2] [0, 1, 6, 8, 46] True ⟨[(0, .one (.e (.sl 0 0 x1.length))), (1, I i2), (6, .one (.e (.sl 1 0 x72.length))), (8, .one (.e (.sl 2 0 x76.length))), (46, B true)], [.row .acc x1 false, .row .int x72 true, .row .int x76 true]⟩ (by kernel_rfl) trivial ?_
            cases hv96
            exact WO_nil rfl ⟨rfl, rfl⟩
          · refine WO_step 2 [0, 1, 2] [0, 1, 6, 8, 41, 42, 43] True ⟨[(0, .one (.e (.sl 0 0 x1.length))), (1, I i2), (6, .one (.e (.sl 1 0 x72.length))), (8, .one (.e (.sl 2 0 x76.length))), (41, B false), (42, .one (.e (.sl 2 0 x76.length))), (43, .one (.e (.sl 1 0 x72.length)))], [.row .acc x1 false, .row .int x72 true, .row .int x76 true]⟩ (by kernel_rfl) trivial ?_
            refine bindO_e hv96 (fun b98 hc99 hv96 => ?_)
            refine WO_call [.ro 2, .ro 1] Try.f26 rfl rfl rfl (by kernel_rfl) rfl rfl (by kernel_rfl) (laws_eqIntS_ok n x76 x72 b98 hc99) (And.intro (And.intro rfl rfl) (And.intro (And.intro rfl rfl) (trivial))) rfl ?_
            refine WO_step 2 [0, 1, 2] [0, 1, 6, 8, 46] True ⟨[(0, .one (.e (.sl 0 0 x1.length))), (1, I i2), (6, .one (.e (.sl 1 0 x72.length))), (8, .one (.e (.sl 2 0 x76.length))), (46, B (!b98))], [.row .acc x1 false, .row .int x72 true, .row .int x76 true]⟩ (by kernel_rfl) trivial ?_
            cases hv96
            exact WO_nil rfl ⟨rfl, rfl⟩
        · refine thenS_n ?_
          refine iteO_e h (fun hb101 h => W_true rfl hb101 ?_) (fun hb101 h => W_false rfl hb101 ?_)
          · refine W_seq ?_
            refine W_region ?_
            refine WO_step 1 [0] [4] True ⟨[(4, B false)], [.row .acc x1 false]⟩ (by kernel_rfl) trivial ?_
            refine WO_nil rfl ?_
            refine thenS_n ?_
            refine W_ret ?_
            refine thenS_r ?_
            cases h
            exact ⟨[0], True, by kernel_rfl, trivial⟩
          · refine W_sub [0, 1, 2] [0, 1, 6, 8] (st' := ⟨[(0, .one (.e (.sl 0 0 x1.length))), (1, I i2), (6, .one (.e (.sl 1 0 x72.length))), (8, .one (.e (.sl 2 0 x76.length)))], [.row .acc x1 false, .row .int x72 true, .row .int x76 true]⟩) (by kernel_rfl) ?_
            refine W_skip ?_
            refine thenS_n ?_
            refine W_seq ?_
            refine W_region ?_
            refine WO_step 1 [0, 1, 2] [0, 1, 6, 8, 10] True ⟨[(0, .one (.e (.sl 0 0 x1.length))), (1, I i2), (6, .one (.e (.sl 1 0 x72.length))), (8, .one (.e (.sl 2 0 x76.length))), (10, I 1)], [.row .acc x1 false, .row .int x72 true, .row .int x76 true]⟩ (by kernel_rfl) trivial ?_
            refine WO_nil rfl ?_
            refine thenS_n ?_
            refine W_seq ?_
            refine W_region ?_
            refine WO_step 2 [0, 1, 2] [0, 1, 6, 8, 47, 48] True ⟨[(0, .one (.e (.sl 0 0 x1.length))), (1, I i2), (6, .one (.e (.sl 1 0 x72.length))), (8, .one (.e (.sl 2 0 x76.length))), (47, .one (.e (.sl 2 0 x76.length))), (48, I 1)], [.row .acc x1 false, .row .int x72 true, .row .int x76 true]⟩ (by kernel_rfl) trivial ?_
            refine bindO_e h (fun v126 hc104 h => ?_)
            obtain ⟨x102, i103⟩ := v126
            refine guardO_e h (fun hl105 h => ?_)
            refine WO_call [.own 2] Try.f29 rfl rfl rfl (by kernel_rfl) rfl rfl (by kernel_rfl) (laws_markIntS_ok n x76 x76.length 1 x102 i103 hc104) (And.intro (And.intro rfl (And.intro rfl hl105)) (trivial)) rfl ?_
            refine WO_sub [0, 1, 2] [0, 1, 6, 8, 47, 48, 49] (st' := ⟨[(0, .one (.e (.sl 0 0 x1.length))), (1, I i2), (6, .one (.e (.sl 1 0 x72.length))), (8, .one (.e (.sl 2 0 x76.length))), (47, .one (.e (.sl 2 0 x76.length))), (48, I 1), (49, I i103)], [.row .acc x1 false, .row .int x72 true, .row .int x102 true]⟩) (by kernel_rfl) ?_
            refine WO_eq (st' := ⟨[(0, .one (.e (.sl 0 0 x1.length))), (1, I i2), (6, .one (.e (.sl 1 0 x72.length))), (8, .one (.e (.sl 2 0 x102.length))), (47, .one (.e (.sl 2 0 x102.length))), (48, I 1), (49, I i103)], [.row .acc x1 false, .row .int x72 true, .row .int x102 true]⟩) (by simp only [hl105]) ?_
            refine WO_step 1 [0, 1, 2] [0, 1, 6, 8, 10] True ⟨[(0, .one (.e (.sl 0 0 x1.length))), (1, I i2), (6, .one (.e (.sl 1 0 x72.length))), (8, .one (.e (.sl 2 0 x102.length))), (10, I i103)], [.row .acc x1 false, .row .int x72 true, .row .int x102 true]⟩ (by kernel_rfl) trivial ?_
            refine WO_nil rfl ?_
            refine thenS_n ?_
            refine W_seq ?_
            refine W_region ?_
            refine WO_step 1 [0, 1, 2] [0, 1, 6, 8, 10, 11] True ⟨[(0, .one (.e (.sl 0 0 x1.length))), (1, I i2), (6, .one (.e (.sl 1 0 x72.length))), (8, .one (.e (.sl 2 0 x102.length))), (10, I i103), (11, I 1)], [.row .acc x1 false, .row .int x72 true, .row .int x102 true]⟩ (by kernel_rfl) trivial ?_
            refine WO_nil rfl ?_
            refine thenS_n ?_
            refine W_seq ?_
            refine W_region ?_
            refine WO_step 2 [0, 1, 2] [0, 1, 6, 8, 10, 50, 51] True ⟨[(0, .one (.e (.sl 0 0 x1.length))), (1, I i2), (6, .one (.e (.sl 1 0 x72.length))), (8, .one (.e (.sl 2 0 x102.length))), (10, I i103), (50, .one (.e (.sl 2 0 x102.length))), (51, I 1)], [.row .acc x1 false, .row .int x72 true, .row .int x102 true]⟩ (by kernel_rfl) trivial ?_
            refine bindO_e h (fun i106 hc107 h => ?_)
            refine WO_call [.ro 2] Try.f30 rfl rfl rfl (by kernel_rfl) rfl rfl (by kernel_rfl) (laws_heldIntS_ok n x102 1 i106 hc107) (And.intro (And.intro rfl rfl) (trivial)) rfl ?_
            refine WO_step 1 [0, 1, 2] [0, 1, 6, 8, 10, 11] True ⟨[(0, .one (.e (.sl 0 0 x1.length))), (1, I i2), (6, .one (.e (.sl 1 0 x72.length))), (8, .one (.e (.sl 2 0 x102.length))), (10, I i103), (11, I i106)], [.row .acc x1 false, .row .int x72 true, .row .int x102 true]⟩ (by kernel_rfl) trivial ?_
            refine WO_nil rfl ?_
            refine thenS_n ?_
            refine W_seq ?_
            refine W_seq ?_
            refine W_region ?_
            refine WO_step 2 [0, 1, 2] [0, 1, 6, 8, 10, 11, 54] (True ∧ True) ⟨[(0, .one (.e (.sl 0 0 x1.length))), (1, I i2), (6, .one (.e (.sl 1 0 x72.length))), (8, .one (.e (.sl 2 0 x102.length))), (10, I i103), (11, I i106), (54, B (decide (i106 < 0)))], [.row .acc x1 false, .row .int x72 true, .row .int x102 true]⟩ (by kernel_rfl) ⟨trivial, trivial⟩ ?_
            refine WO_nil rfl ?_
            refine thenS_n ?_
            refine iteO_e h (fun hb109 h => W_true rfl hb109 ?_) (fun hb109 h => W_false rfl hb109 ?_)
            · refine W_seq ?_
              refine W_region ?_
              refine WO_step 1 [0] [4] True ⟨[(4, B false)], [.row .acc x1 false]⟩ (by kernel_rfl) trivial ?_
              refine WO_nil rfl ?_
              refine thenS_n ?_
              refine W_ret ?_
              refine thenS_r ?_
              cases h
              exact ⟨[0], True, by kernel_rfl, trivial⟩
            · refine W_sub [0, 1, 2] [0, 1, 6, 8, 10, 11] (st' := ⟨[(0, .one (.e (.sl 0 0 x1.length))), (1, I i2), (6, .one (.e (.sl 1 0 x72.length))), (8, .one (.e (.sl 2 0 x102.length))), (10, I i103), (11, I i106)], [.row .acc x1 false, .row .int x72 true, .row .int x102 true]⟩) (by kernel_rfl) ?_
              refine W_skip ?_
              refine thenS_n ?_
              refine W_seq ?_
              refine W_seq ?_
              refine W_region ?_
              refine WO_step 3 [0, 1, 2] [0, 1, 6, 8, 10, 57] (True ∧ True) ⟨[(0, .one (.e (.sl 0 0 x1.length))), (1, I i2), (6, .one (.e (.sl 1 0 x72.length))), (8, .one (.e (.sl 2 0 x102.length))), (10, I i103), (57, B (!decide (i106 = i103)))], [.row .acc x1 false, .row .int x72 true, .row .int x102 true]⟩ (by kernel_rfl) ⟨trivial, trivial⟩ ?_
              refine WO_nil rfl ?_
              refine thenS_n ?_
              refine iteO_e h (fun hb111 h => W_true rfl hb111 ?_) (fun hb111 h => W_false rfl hb111 ?_)
              · refine W_seq ?_
                refine W_region ?_
                refine WO_step 1 [0] [4] True ⟨[(4, B false)], [.row .acc x1 false]⟩ (by kernel_rfl) trivial ?_
                refine WO_nil rfl ?_
                refine thenS_n ?_
                refine W_ret ?_
                refine thenS_r ?_
                cases h
                exact ⟨[0], True, by kernel_rfl, trivial⟩
              · refine W_sub [0, 1, 2] [0, 1, 6, 8, 10] (st' := ⟨[(0, .one (.e (.sl 0 0 x1.length))), (1, I i2), (6, .one (.e (.sl 1 0 x72.length))), (8, .one (.e (.sl 2 0 x102.length))), (10, I i103)], [.row .acc x1 false, .row .int x72 true, .row .int x102 true]⟩) (by kernel_rfl) ?_
                refine W_skip ?_
                refine thenS_n ?_
                refine W_seq ?_
                refine W_region ?_
                refine WO_step 1 [0, 1, 2] [1, 6, 8, 10, 58] True ⟨[(1, I i2), (6, .one (.e (.sl 1 0 x72.length))), (8, .one (.e (.sl 2 0 x102.length))), (10, I i103), (58, .one (.e (.sl 0 0 x1.length)))], [.row .acc x1 false, .row .int x72 true, .row .int x102 true]⟩ (by kernel_rfl) trivial ?_
                refine bindO_e h (fun x112 hc113 h => ?_)
                refine WO_call [.ro 0] Try.f25 rfl rfl rfl (by kernel_rfl) rfl rfl (by kernel_rfl) (laws_toAccessS_ok n x1 x112 hc113) (And.intro (And.intro rfl rfl) (trivial)) rfl ?_
                refine WO_step 1 [0, 1, 2, 3] [6, 8, 10, 59, 60] True ⟨[(6, .one (.e (.sl 1 0 x72.length))), (8, .one (.e (.sl 2 0 x102.length))), (10, I i103), (59, .one (.e (.sl 3 0 x112.length))), (60, I i2)], [.row .acc x1 false, .row .int x72 true, .row .int x102 true, .row .acc x112 true]⟩ (by kernel_rfl) trivial ?_
                refine bindO_e h (fun x114 hc115 h => ?_)
                refine WO_call [.ro 3] Try.f16 rfl rfl rfl (by kernel_rfl) rfl rfl (by kernel_rfl) (impl_ReadsFrom_ok n x112 i2 x114 hc115) (And.intro (And.intro rfl rfl) (trivial)) rfl ?_
                refine WO_step 1 [0, 1, 2, 4] [6, 8, 10, 12] True ⟨[(6, .one (.e (.sl 1 0 x72.length))), (8, .one (.e (.sl 2 0 x102.length))), (10, I i103), (12, .one (.e (.sl 3 0 x114.length)))], [.row .acc x1 false, .row .int x72 true, .row .int x102 true, .row .int x114 true]⟩ (by kernel_rfl) trivial ?_
                refine WO_nil rfl ?_
                refine thenS_n ?_
                refine W_seq ?_
                refine W_seq ?_
                refine W_region ?_
                refine WO_step 2 [0, 2, 3, 1] [8, 10, 62, 63] True ⟨[(8, .one (.e (.sl 1 0 x102.length))), (10, I i103), (62, .one (.e (.sl 2 0 x114.length))), (63, .one (.e (.sl 3 0 x72.length)))], [.row .acc x1 false, .row .int x102 true, .row .int x114 true, .row .int x72 true]⟩ (by kernel_rfl) trivial ?_
                refine bindO_e h (fun b116 hc117 h => ?_)
                refine WO_call [.ro 2, .ro 3] Try.f26 rfl rfl rfl (by kernel_rfl) rfl rfl (by kernel_rfl) (laws_eqIntS_ok n x114 x72 b116 hc117) (And.intro (And.intro rfl rfl) (And.intro (And.intro rfl rfl) (trivial))) rfl ?_
                refine WO_step 1 [0, 1] [8, 10, 65] True ⟨[(8, .one (.e (.sl 1 0 x102.length))), (10, I i103), (65, B (!b116))], [.row .acc x1 false, .row .int x102 true]⟩ (by kernel_rfl) trivial ?_
                refine WO_nil rfl ?_
                refine thenS_n ?_
                refine iteO_e h (fun hb119 h => W_true rfl hb119 ?_) (fun hb119 h => W_false rfl hb119 ?_)
                · refine W_seq ?_
                  refine W_region ?_
                  refine WO_step 1 [0] [4] True ⟨[(4, B false)], [.row .acc x1 false]⟩ (by kernel_rfl) trivial ?_
                  refine WO_nil rfl ?_
                  refine thenS_n ?_
                  refine W_ret ?_
                  refine thenS_r ?_
                  cases h
                  exact ⟨[0], True, by kernel_rfl, trivial⟩
                · refine W_sub [0, 1] [8, 10] (st' := ⟨[(8, .one (.e (.sl 1 0 x102.length))), (10, I i103)], [.row .acc x1 false, .row .int x102 true]⟩) (by kernel_rfl) ?_
                  refine W_skip ?_
                  refine thenS_n ?_
                  refine W_seq ?_
                  refine W_region ?_
                  refine WO_step 1 [0, 1] [8, 10, 11] True ⟨[(8, .one (.e (.sl 1 0 x102.length))), (10, I i103), (11, I 1)], [.row .acc x1 false, .row .int x102 true]⟩ (by kernel_rfl) trivial ?_
                  refine WO_nil rfl ?_
                  refine thenS_n ?_
                  refine W_seq ?_
                  refine W_region ?_
                  refine WO_step 2 [0, 1] [10, 66, 67] True ⟨[(10, I i103), (66, .one (.e (.sl 1 0 x102.length))), (67, I 1)], [.row .acc x1 false, .row .int x102 true]⟩ (by kernel_rfl) trivial ?_
                  refine bindO_e h (fun i120 hc121 h => ?_)
                  refine WO_call [.ro 1] Try.f30 rfl rfl rfl (by kernel_rfl) rfl rfl (by kernel_rfl) (laws_heldIntS_ok n x102 1 i120 hc121) (And.intro (And.intro rfl rfl) (trivial)) rfl ?_
                  refine WO_step 1 [0] [10, 11] True ⟨[(10, I i103), (11, I i120)], [.row .acc x1 false]⟩ (by kernel_rfl) trivial ?_
                  refine WO_nil rfl ?_
                  refine thenS_n ?_
                  refine W_seq ?_
                  refine W_seq ?_
                  refine W_region ?_
                  refine WO_step 2 [0] [10, 11, 70] (True ∧ True) ⟨[(10, I i103), (11, I i120), (70, B (decide (i120 < 0)))], [.row .acc x1 false]⟩ (by kernel_rfl) ⟨trivial, trivial⟩ ?_
                  refine WO_nil rfl ?_
                  refine thenS_n ?_
                  refine iteO_e h (fun hb123 h => W_true rfl hb123 ?_) (fun hb123 h => W_false rfl hb123 ?_)
                  · refine W_seq ?_
                    refine W_region ?_
                    refine WO_step 1 [0] [4] True ⟨[(4, B false)], [.row .acc x1 false]⟩ (by kernel_rfl) trivial ?_
                    refine WO_nil rfl ?_
                    refine thenS_n ?_
                    refine W_ret ?_
                    refine thenS_r ?_
                    cases h
                    exact ⟨[0], True, by kernel_rfl, trivial⟩
                  · refine W_sub [0] [10, 11] (st' := ⟨[(10, I i103), (11, I i120)], [.row .acc x1 false]⟩) (by kernel_rfl) ?_
                    refine W_skip ?_
                    refine thenS_n ?_
                    refine W_seq ?_
                    refine W_seq ?_
                    refine W_region ?_
                    refine WO_step 3 [0] [73] (True ∧ True) ⟨[(73, B (!decide (i120 = i103)))], [.row .acc x1 false]⟩ (by kernel_rfl) ⟨trivial, trivial⟩ ?_
                    refine WO_nil rfl ?_
                    refine thenS_n ?_
                    refine iteO_e h (fun hb125 h => W_true rfl hb125 ?_) (fun hb125 h => W_false rfl hb125 ?_)
                    · refine W_seq ?_
                      refine W_region ?_
                      refine WO_step 1 [0] [4] True ⟨[(4, B false)], [.row .acc x1 false]⟩ (by kernel_rfl) trivial ?_
                      refine WO_nil rfl ?_
                      refine thenS_n ?_
                      refine W_ret ?_
                      refine thenS_r ?_
                      cases h
                      exact ⟨[0], True, by kernel_rfl, trivial⟩
                    · refine W_sub [0] [] (st' := ⟨[], [.row .acc x1 false]⟩) (by kernel_rfl) ?_
                      refine W_skip ?_
                      refine thenS_n ?_
                      refine W_seq ?_
                      refine W_region ?_
                      refine WO_step 1 [0] [4] True ⟨[(4, B true)], [.row .acc x1 false]⟩ (by kernel_rfl) trivial ?_
                      refine WO_nil rfl ?_
                      refine thenS_n ?_
                      refine W_ret ?_
                      cases h
                      exact ⟨[0], True, by kernel_rfl, trivial⟩

/- laws.toIntS -/
def laws_toIntS_L1 (x1 : List Int) : Nat → (List Int) → Int → Option ((List Int))
| 0, _, _ => none
| n + 1, x47, i48 =>
 iteO (decide (i48 < ((x1.length : Nat) : Int)))
 (guardO (0 ≤ i48 ∧ i48 < ((x1.length : Nat) : Int)) <|
 guardO (0 ≤ i48 ∧ i48 < ((x47.length : Nat) : Int)) <|
 laws_toIntS_L1 x1 n (x47.set i48.toNat (x1.getD i48.toNat 0)) (w64 (i48 + 1)))
 (some x47)

theorem laws_toIntS_L1_ok (w : World) (X : Nat → Prop) (θ : List Loc) (x1 : List Int) (x57 : (List Int)) : ∀ (n : Nat) (x47 : List Int) (i48 : Int), laws_toIntS_L1 x1 n x47 i48 = some x57 → WL EE ⟨w, X, θ, 22, 1⟩ (subC [1, 1, 0, 1, 4, 4] (bodyC Try.f34)) (fun (e : Exit) (s : St) => e = .exit 0 ∧ s = ⟨[(3, .one (.e (.sl 1 0 x57.length)))], [.row .int x1 false, .row .int x57 true]⟩) ⟨[(0, .one (.e (.sl 0 0 x1.length))), (3, .one (.e (.sl 1 0 x47.length))), (4, I i48)], [.row .int x1 false, .row .int x47 true]⟩ := by
  intro n
  induction n with
  | zero => intro _ _ h; exact none_e h
  | succ n ih =>
    intro x47 i48 h
    rw [laws_toIntS_L1] at h
    refine WL_round ?_
    refine W_seq ?_
    refine W_seq ?_
    refine W_region ?_
    refine WO_step 4 [0, 1] [0, 3, 4, 11] (True ∧ (True ∧ True)) ⟨[(0, .one (.e (.sl 0 0 x1.length))), (3, .one (.e (.sl 1 0 x47.length))), (4, I i48), (11, B (decide (i48 < ((x1.length : Nat) : Int))))], [.row .int x1 false, .row .int x47 true]⟩ (by kernel_rfl) ⟨trivial, trivial, trivial⟩ ?_
    refine WO_nil rfl ?_
    refine thenS_n ?_
    refine iteO_e h (fun hb60 h => W_true rfl hb60 ?_) (fun hb60 h => W_false rfl hb60 ?_)
    · refine W_sub [0, 1] [0, 3, 4] (st' := ⟨[(0, .one (.e (.sl 0 0 x1.length))), (3, .one (.e (.sl 1 0 x47.length))), (4, I i48)], [.row .int x1 false, .row .int x47 true]⟩) (by kernel_rfl) ?_
      refine W_skip ?_
      refine thenS_n ?_
      refine W_seq ?_
      refine W_block ?_
      refine W_region ?_
      refine guardO_e h (fun hg63 h => ?_)
      refine guardO_e h (fun hg64 h => ?_)
      refine WO_step 8 [0, 1] [0, 3, 4] ((0 ≤ i48 ∧ i48 < ((x1.length : Nat) : Int)) ∧ (True ∧ ((0 ≤ i48 ∧ i48 < ((x47.length : Nat) : Int)) ∧ (True ∧ True)))) ⟨[(0, .one (.e (.sl 0 0 x1.length))), (3, .one (.e (.sl 1 0 x47.length))), (4, I i48)], [.row .int x1 false, .row .int (x47.set i48.toNat (x1.getD i48.toNat 0)) true]⟩ (by kernel_rfl) ⟨hg63, trivial, hg64, trivial, trivial⟩ ?_
      refine WO_eq (st' := ⟨[(0, .one (.e (.sl 0 0 x1.length))), (3, .one (.e (.sl 1 0 ((x47.set i48.toNat (x1.getD i48.toNat 0)).length)))), (4, I i48)], [.row .int x1 false, .row .int (x47.set i48.toNat (x1.getD i48.toNat 0)) true]⟩) (by simp only [List.length_set]) ?_
      refine WO_nil rfl ?_
      refine blockS_n ?_
      refine thenS_n ?_
      refine W_region ?_
      refine WO_step 3 [0, 1] [0, 3, 4] (True ∧ True) ⟨[(0, .one (.e (.sl 0 0 x1.length))), (3, .one (.e (.sl 1 0 ((x47.set i48.toNat (x1.getD i48.toNat 0)).length)))), (4, I (w64 (i48 + 1)))], [.row .int x1 false, .row .int (x47.set i48.toNat (x1.getD i48.toNat 0)) true]⟩ (by kernel_rfl) ⟨trivial, trivial⟩ ?_
      refine WO_nil rfl ?_
      refine thenS_n ?_
      exact ih _ _ h
    · refine W_sub [0, 1] [3] (st' := ⟨[(3, .one (.e (.sl 1 0 x47.length)))], [.row .int x1 false, .row .int x47 true]⟩) (by kernel_rfl) ?_
      refine W_exit ?_
      refine thenS_e ?_
      refine thenS_e ?_
      cases h
      exact And.intro rfl rfl

def laws_toIntS (n : Nat) (x1 : List Int) : Option ((List Int)) :=
 guardO ((((x1.length : Nat) : Int) : Int) = ((x1.length : Nat) : Int) ∧ 0 ≤ ((x1.length : Nat) : Int) ∧ ((x1.length : Nat) : Int) ≤ 1099511627776) <|
 bindO (laws_toIntS_L1 x1 n (List.replicate (((x1.length : Nat) : Int).toNat) (0 : Int)) 0) fun x57 =>
 some x57

theorem laws_toIntS_ok (n : Nat) (x1 : List Int) (x33 : List Int) (h : laws_toIntS n x1 = some x33) : FOk EE 34 [.one (.e (.sl 0 0 x1.length))] [.row .int x1 false] (.one (.e (.sl 1 0 x33.length))) [.row .int x1 false, .row .int x33 true] := by
  unfold laws_toIntS at h
  refine FOk_of_W 22 1 Try.func34 rfl rfl (Nat.le_of_ble_eq_true rfl) rfl (fun w X θ => ?_)
  refine W_seq ?_
  refine W_region ?_
  refine WO_step 1 [0] [0] True ⟨[(0, .one (.e (.sl 0 0 x1.length)))], [.row .int x1 false]⟩ (by kernel_rfl) trivial ?_
  refine WO_nil rfl ?_
  refine thenS_n ?_
  refine W_seq ?_
  refine W_region ?_
  refine guardO_e h (fun hg34 h => ?_)
  refine WO_step 4 [0, 1] [0, 3] (True ∧ (((((x1.length : Nat) : Int) : Int) = ((x1.length : Nat) : Int) ∧ 0 ≤ ((x1.length : Nat) : Int) ∧ ((x1.length : Nat) : Int) ≤ 1099511627776) ∧ True)) ⟨[(0, .one (.e (.sl 0 0 x1.length))), (3, .one (.e (.sl 1 0 ((List.replicate (((x1.length : Nat) : Int).toNat) (0 : Int)).length))))], [.row .int x1 false, .row .int (List.replicate (((x1.length : Nat) : Int).toNat) (0 : Int)) true]⟩ (by kernel_rfl) ⟨trivial, hg34, trivial⟩ ?_
  refine WO_nil rfl ?_
  refine thenS_n ?_
  refine W_seq ?_
  refine W_seq ?_
  refine W_region ?_
  refine WO_step 1 [0, 1] [0, 3, 4] True ⟨[(0, .one (.e (.sl 0 0 x1.length))), (3, .one (.e (.sl 1 0 ((List.replicate (((x1.length : Nat) : Int).toNat) (0 : Int)).length)))), (4, I 0)], [.row .int x1 false, .row .int (List.replicate (((x1.length : Nat) : Int).toNat) (0 : Int)) true]⟩ (by kernel_rfl) trivial ?_
  refine WO_nil rfl ?_
  refine thenS_n ?_
  refine W_block ?_
  refine W_loop ?_
  refine bindO_e h (fun x57 hx57 h => ?_)
  refine WL_cut (laws_toIntS_L1_ok w X θ x1 x57 n (List.replicate (((x1.length : Nat) : Int).toNat) (0 : Int)) 0 hx57) ?_
  rintro _ _ ⟨rfl, rfl⟩
  refine blockS_y ?_
  refine thenS_n ?_
  refine W_seq ?_
  refine W_region ?_
  refine WO_step 2 [0, 1] [2] True ⟨[(2, .one (.e (.sl 1 0 x57.length)))], [.row .int x1 false, .row .int x57 true]⟩ (by kernel_rfl) trivial ?_
  refine WO_nil rfl ?_
  refine thenS_n ?_
  refine W_ret ?_
  cases h
  exact ⟨[0, 1], True, by kernel_rfl, trivial⟩

/- laws.FnExactMayCommit -/
def laws_FnExactMayCommit (n : Nat) (x1 : List Acc) (i2 : Int) (x3 : List Int) : Option (Bool) :=
 iteO (decide (1048576 < ((x3.length : Nat) : Int)))
 (some true)
 (bindO (laws_szAccessS x1 1048576) fun i39 =>
 iteO (decide (i39 < 0))
 (some true)
 (bindO (laws_toAccessS n x1) fun x43 =>
 bindO (laws_toIntS n x3) fun x45 =>
 bindO (spec_MayCommit n x43 i2 x45) fun b47 =>
 bindO (laws_toAccessS n x1) fun x49 =>
 bindO (laws_toIntS n x3) fun x51 =>
 bindO (impl_MayCommit n x49 i2 x51) fun b53 =>
 iteO (!(b53 == b47))
 (some false)
 (bindO (laws_toAccessS n x1) fun x57 =>
 bindO (laws_eqAccessS n x49 x57) fun b59 =>
 iteO (!b59)
 (some false)
 (bindO (laws_toIntS n x3) fun x63 =>
 bindO (laws_eqIntS n x51 x63) fun b65 =>
 iteO (!b65)
 (some false)
 (some true)))))

theorem laws_FnExactMayCommit_ok (n : Nat) (x1 : List Acc) (i2 : Int) (x3 : List Int) (b36 : Bool) (h : laws_FnExactMayCommit n x1 i2 x3 = some b36) : FOk EE 10 [.one (.e (.sl 0 0 x1.length)), I i2, .one (.e (.sl 1 0 x3.length))] [.row .acc x1 false, .row .int x3 false] (B b36) [.row .acc x1 false, .row .int x3 false] := by
  unfold laws_FnExactMayCommit at h
  refine FOk_of_W 47 2 Try.func10 rfl rfl (Nat.le_of_ble_eq_true rfl) rfl (fun w X θ => ?_)
  refine W_seq ?_
  refine W_region ?_
  refine WO_step 1 [0, 1] [0, 1, 2] True ⟨[(0, .one (.e (.sl 0 0 x1.length))), (1, I i2), (2, .one (.e (.sl 1 0 x3.length)))], [.row .acc x1 false, .row .int x3 false]⟩ (by kernel_rfl) trivial ?_
  refine WO_nil rfl ?_
  refine thenS_n ?_
  refine W_seq ?_
  refine W_seq ?_
  refine W_region ?_
  refine WO_step 3 [0, 1] [0, 1, 2, 14] (True ∧ (True ∧ True)) ⟨[(0, .one (.e (.sl 0 0 x1.length))), (1, I i2), (2, .one (.e (.sl 1 0 x3.length))), (14, B (decide (1048576 < ((x3.length : Nat) : Int))))], [.row .acc x1 false, .row .int x3 false]⟩ (by kernel_rfl) ⟨trivial, trivial, trivial⟩ ?_
  refine WO_nil rfl ?_
  refine thenS_n ?_
  refine iteO_e h (fun hb38 h => W_true rfl hb38 ?_) (fun hb38 h => W_false rfl hb38 ?_)
  · refine W_seq ?_
    refine W_region ?_
    refine WO_step 1 [0, 1] [6] True ⟨[(6, B true)], [.row .acc x1 false, .row .int x3 false]⟩ (by kernel_rfl) trivial ?_
    refine WO_nil rfl ?_
    refine thenS_n ?_
    refine W_ret ?_
    refine thenS_r ?_
    cases h
    exact ⟨[0, 1], True, by kernel_rfl, trivial⟩
  · refine W_sub [0, 1] [0, 1, 2] (st' := ⟨[(0, .one (.e (.sl 0 0 x1.length))), (1, I i2), (2, .one (.e (.sl 1 0 x3.length)))], [.row .acc x1 false, .row .int x3 false]⟩) (by kernel_rfl) ?_
    refine W_skip ?_
    refine thenS_n ?_
    refine W_seq ?_
    refine W_region ?_
    refine WO_step 1 [0, 1] [0, 1, 2, 7] True ⟨[(0, .one (.e (.sl 0 0 x1.length))), (1, I i2), (2, .one (.e (.sl 1 0 x3.length))), (7, I 1048576)], [.row .acc x1 false, .row .int x3 false]⟩ (by kernel_rfl) trivial ?_
    refine WO_nil rfl ?_
    refine thenS_n ?_
    refine W_seq ?_
    refine W_region ?_
    refine WO_step 2 [0, 1] [0, 1, 2, 15, 16] True ⟨[(0, .one (.e (.sl 0 0 x1.length))), (1, I i2), (2, .one (.e (.sl 1 0 x3.length))), (15, .one (.e (.sl 0 0 x1.length))), (16, I 1048576)], [.row .acc x1 false, .row .int x3 false]⟩ (by kernel_rfl) trivial ?_
    refine bindO_e h (fun i39 hc40 h => ?_)
    refine WO_call [.ro 0] Try.f24 rfl rfl rfl (by kernel_rfl) rfl rfl (by kernel_rfl) (laws_szAccessS_ok x1 1048576 i39 hc40) (And.intro (And.intro rfl rfl) (trivial)) rfl ?_
    refine WO_step 1 [0, 1] [0, 1, 2, 7] True ⟨[(0, .one (.e (.sl 0 0 x1.length))), (1, I i2), (2, .one (.e (.sl 1 0 x3.length))), (7, I i39)], [.row .acc x1 false, .row .int x3 false]⟩ (by kernel_rfl) trivial ?_
    refine WO_nil rfl ?_
    refine thenS_n ?_
    refine W_seq ?_
    refine W_seq ?_
    refine W_region ?_
    refine WO_step 2 [0, 1] [0, 1, 2, 19] (True ∧ True) ⟨[(0, .one (.e (.sl 0 0 x1.length))), (1, I i2), (2, .one (.e (.sl 1 0 x3.length))), (19, B (decide (i39 < 0)))], [.row .acc x1 false, .row .int x3 false]⟩ (by kernel_rfl) ⟨trivial, trivial⟩ ?_
    refine WO_nil rfl ?_
    refine thenS_n ?_
    refine iteO_e h (fun hb42 h => W_true rfl hb42 ?_) (fun hb42 h => W_false rfl hb42 ?_)
    · refine W_seq ?_
      refine W_region ?_
      refine WO_step 1 [0, 1] [6] True ⟨[(6, B true)], [.row .acc x1 false, .row .int x3 false]⟩ (by kernel_rfl) trivial ?_
      refine WO_nil rfl ?_
      refine thenS_n ?_
      refine W_ret ?_
      refine thenS_r ?_
      cases h
      exact ⟨[0, 1], True, by kernel_rfl, trivial⟩
    · refine W_sub [0, 1] [0, 1, 2] (st' := ⟨[(0, .one (.e (.sl 0 0 x1.length))), (1, I i2), (2, .one (.e (.sl 1 0 x3.length)))], [.row .acc x1 false, .row .int x3 false]⟩) (by kernel_rfl) ?_
      refine W_skip ?_
      refine thenS_n ?_
      refine W_seq ?_
      refine W_region ?_
      refine WO_step 1 [0, 1] [0, 1, 2, 20] True ⟨[(0, .one (.e (.sl 0 0 x1.length))), (1, I i2), (2, .one (.e (.sl 1 0 x3.length))), (20, .one (.e (.sl 0 0 x1.length)))], [.row .acc x1 false, .row .int x3 false]⟩ (by kernel_rfl) trivial ?_
      refine bindO_e h (fun x43 hc44 h => ?_)
      refine WO_call [.ro 0] Try.f25 rfl rfl rfl (by kernel_rfl) rfl rfl (by kernel_rfl) (laws_toAccessS_ok n x1 x43 hc44) (And.intro (And.intro rfl rfl) (trivial)) rfl ?_
      refine WO_step 2 [0, 1, 2] [0, 1, 2, 21, 22, 23] True ⟨[(0, .one (.e (.sl 0 0 x1.length))), (1, I i2), (2, .one (.e (.sl 1 0 x3.length))), (21, .one (.e (.sl 2 0 x43.length))), (22, I i2), (23, .one (.e (.sl 1 0 x3.length)))], [.row .acc x1 false, .row .int x3 false, .row .acc x43 true]⟩ (by kernel_rfl) trivial ?_
      refine bindO_e h (fun x45 hc46 h => ?_)
      refine WO_call [.ro 1] Try.f34 rfl rfl rfl (by kernel_rfl) rfl rfl (by kernel_rfl) (laws_toIntS_ok n x3 x45 hc46) (And.intro (And.intro rfl rfl) (trivial)) rfl ?_
      refine WO_sub [0, 1, 2, 3] [0, 1, 2, 21, 22, 24] (st' := ⟨[(0, .one (.e (.sl 0 0 x1.length))), (1, I i2), (2, .one (.e (.sl 1 0 x3.length))), (21, .one (.e (.sl 2 0 x43.length))), (22, I i2), (24, .one (.e (.sl 3 0 x45.length)))], [.row .acc x1 false, .row .int x3 false, .row .acc x43 true, .row .int x45 true]⟩) (by kernel_rfl) ?_
      refine bindO_e h (fun b47 hc48 h => ?_)
      refine WO_call [.ro 2, .ro 3] Try.f23 rfl rfl rfl (by kernel_rfl) rfl rfl (by kernel_rfl) (spec_MayCommit_ok n x43 i2 x45 b47 hc48) (And.intro (And.intro rfl rfl) (And.intro (And.intro rfl rfl) (trivial))) rfl ?_
      refine WO_step 1 [0, 1] [0, 1, 2, 8] True ⟨[(0, .one (.e (.sl 0 0 x1.length))), (1, I i2), (2, .one (.e (.sl 1 0 x3.length))), (8, B b47)], [.row .acc x1 false, .row .int x3 false]⟩ (by kernel_rfl) trivial ?_
      refine WO_nil rfl ?_
      refine thenS_n ?_
      refine W_seq ?_
      refine W_region ?_
      refine WO_step 1 [0, 1] [0, 1, 2, 8, 26] True ⟨[(0, .one (.e (.sl 0 0 x1.length))), (1, I i2), (2, .one (.e (.sl 1 0 x3.length))), (8, B b47), (26, .one (.e (.sl 0 0 x1.length)))], [.row .acc x1 false, .row .int x3 false]⟩ (by kernel_rfl) trivial ?_
      refine bindO_e h (fun x49 hc50 h => ?_)
      refine WO_call [.ro 0] Try.f25 rfl rfl rfl (by kernel_rfl) rfl rfl (by kernel_rfl) (laws_toAccessS_ok n x1 x49 hc50) (And.intro (And.intro rfl rfl) (trivial)) rfl ?_
      refine WO_step 1 [0, 1, 2] [0, 1, 2, 8, 9] True ⟨[(0, .one (.e (.sl 0 0 x1.length))), (1, I i2), (2, .one (.e (.sl 1 0 x3.length))), (8, B b47), (9, .one (.e (.sl 2 0 x49.length)))], [.row .acc x1 false, .row .int x3 false, .row .acc x49 true]⟩ (by kernel_rfl) trivial ?_
      refine WO_nil rfl ?_
      refine thenS_n ?_
      refine W_seq ?_
      refine W_region ?_
      refine WO_step 1 [0, 1, 2] [0, 1, 2, 8, 9, 28] True ⟨[(0, .one (.e (.sl 0 0 x1.length))), (1, I i2), (2, .one (.e (.sl 1 0 x3.length))), (8, B b47), (9, .one (.e (.sl 2 0 x49.length))), (28, .one (.e (.sl 1 0 x3.length)))], [.row .acc x1 false, .row .int x3 false, .row .acc x49 true]⟩ (by kernel_rfl) trivial ?_
      refine bindO_e h (fun x51 hc52 h => ?_)
      refine WO_call [.ro 1] Try.f34 rfl rfl rfl (by kernel_rfl) rfl rfl (by kernel_rfl) (laws_toIntS_ok n x3 x51 hc52) (And.intro (And.intro rfl rfl) (trivial)) rfl ?_
      refine WO_step 1 [0, 1, 2, 3] [0, 1, 2, 8, 9, 10] True ⟨[(0, .one (.e (.sl 0 0 x1.length))), (1, I i2), (2, .one (.e (.sl 1 0 x3.length))), (8, B b47), (9, .one (.e (.sl 2 0 x49.length))), (10, .one (.e (.sl 3 0 x51.length)))], [.row .acc x1 false, .row .int x3 false, .row .acc x49 true, .row .int x51 true]⟩ (by kernel_rfl) trivial ?_
      refine WO_nil rfl ?_
      refine thenS_n ?_
      refine W_seq ?_
      refine W_region ?_
      refine WO_step 3 [0, 1, 2, 3] [0, 2, 8, 9, 10, 30, 31, 32] True ⟨[(0, .one (.e (.sl 0 0 x1.length))), (2, .one (.e (.sl 1 0 x3.length))), (8, B b47), (9, .one (.e (.sl 2 0 x49.length))), (10, .one (.e (.sl 3 0 x51.length))), (30, .one (.e (.sl 2 0 x49.length))), (31, I i2), (32, .one (.e (.sl 3 0 x51.length)))], [.row .acc x1 false, .row .int x3 false, .row .acc x49 true, .row .int x51 true]⟩ (by kernel_rfl) trivial ?_
      refine bindO_e h (fun b53 hc54 h => ?_)
      refine WO_call [.ro 2, .ro 3] Try.f22 rfl rfl rfl (by kernel_rfl) rfl rfl (by kernel_rfl) (impl_MayCommit_ok n x49 i2 x51 b53 hc54) (And.intro (And.intro rfl rfl) (And.intro (And.intro rfl rfl) (trivial))) rfl ?_
      refine WO_step 1 [0, 1, 2, 3] [0, 2, 8, 9, 10, 11] True ⟨[(0, .one (.e (.sl 0 0 x1.length))), (2, .one (.e (.sl 1 0 x3.length))), (8, B b47), (9, .one (.e (.sl 2 0 x49.length))), (10, .one (.e (.sl 3 0 x51.length))), (11, B b53)], [.row .acc x1 false, .row .int x3 false, .row .acc x49 true, .row .int x51 true]⟩ (by kernel_rfl) trivial ?_
      refine WO_nil rfl ?_
      refine thenS_n ?_
      refine W_seq ?_
      refine W_seq ?_
      refine W_region ?_
      refine WO_step 3 [0, 1, 2, 3] [0, 2, 9, 10, 36] (True ∧ True) ⟨[(0, .one (.e (.sl 0 0 x1.length))), (2, .one (.e (.sl 1 0 x3.length))), (9, .one (.e (.sl 2 0 x49.length))), (10, .one (.e (.sl 3 0 x51.length))), (36, B (!(b53 == b47)))], [.row .acc x1 false, .row .int x3 false, .row .acc x49 true, .row .int x51 true]⟩ (by kernel_rfl) ⟨trivial, trivial⟩ ?_
      refine WO_nil rfl ?_
      refine thenS_n ?_
      refine iteO_e h (fun hb56 h => W_true rfl hb56 ?_) (fun hb56 h => W_false rfl hb56 ?_)
      · refine W_seq ?_
        refine W_region ?_
        refine WO_step 1 [0, 1] [6] True ⟨[(6, B false)], [.row .acc x1 false, .row .int x3 false]⟩ (by kernel_rfl) trivial ?_
        refine WO_nil rfl ?_
        refine thenS_n ?_
        refine W_ret ?_
        refine thenS_r ?_
        cases h
        exact ⟨[0, 1], True, by kernel_rfl, trivial⟩
      · refine W_sub [0, 1, 2, 3] [0, 2, 9, 10] (st' := ⟨[(0, .one (.e (.sl 0 0 x1.length))), (2, .one (.e (.sl 1 0 x3.length))), (9, .one (.e (.sl 2 0 x49.length))), (10, .one (.e (.sl 3 0 x51.length)))], [.row .acc x1 false, .row .int x3 false, .row .acc x49 true, .row .int x51 true]⟩) (by kernel_rfl) ?_
        refine W_skip ?_
        refine thenS_n ?_
        refine W_seq ?_
        refine W_seq ?_
        refine W_region ?_
        refine WO_step 2 [0, 1, 3, 2] [2, 10, 37, 38] True ⟨[(2, .one (.e (.sl 1 0 x3.length))), (10, .one (.e (.sl 2 0 x51.length))), (37, .one (.e (.sl 3 0 x49.length))), (38, .one (.e (.sl 0 0 x1.length)))], [.row .acc x1 false, .row .int x3 false, .row .int x51 true, .row .acc x49 true]⟩ (by kernel_rfl) trivial ?_
        refine bindO_e h (fun x57 hc58 h => ?_)
        refine WO_call [.ro 0] Try.f25 rfl rfl rfl (by kernel_rfl) rfl rfl (by kernel_rfl) (laws_toAccessS_ok n x1 x57 hc58) (And.intro (And.intro rfl rfl) (trivial)) rfl ?_
        refine WO_sub [0, 1, 2, 3, 4] [2, 10, 37, 39] (st' := ⟨[(2, .one (.e (.sl 1 0 x3.length))), (10, .one (.e (.sl 2 0 x51.length))), (37, .one (.e (.sl 3 0 x49.length))), (39, .one (.e (.sl 4 0 x57.length)))], [.row .acc x1 false, .row .int x3 false, .row .int x51 true, .row .acc x49 true, .row .acc x57 true]⟩) (by kernel_rfl) ?_
        refine bindO_e h (fun b59 hc60 h => ?_)
        refine WO_call [.ro 3, .ro 4] Try.f27 rfl rfl rfl (by kernel_rfl) rfl rfl (by kernel_rfl) (laws_eqAccessS_ok n x49 x57 b59 hc60) (And.intro (And.intro rfl rfl) (And.intro (And.intro rfl rfl) (trivial))) rfl ?_
        refine WO_step 1 [0, 1, 2] [2, 10, 41] True ⟨[(2, .one (.e (.sl 1 0 x3.length))), (10, .one (.e (.sl 2 0 x51.length))), (41, B (!b59))], [.row .acc x1 false, .row .int x3 false, .row .int x51 true]⟩ (by kernel_rfl) trivial ?_
        refine WO_nil rfl ?_
        refine thenS_n ?_
        refine iteO_e h (fun hb62 h => W_true rfl hb62 ?_) (fun hb62 h => W_false rfl hb62 ?_)
        · refine W_seq ?_
          refine W_region ?_
          refine WO_step 1 [0, 1] [6] True ⟨[(6, B false)], [.row .acc x1 false, .row .int x3 false]⟩ (by kernel_rfl) trivial ?_
          refine WO_nil rfl ?_
          refine thenS_n ?_
          refine W_ret ?_
          refine thenS_r ?_
          cases h
          exact ⟨[0, 1], True, by kernel_rfl, trivial⟩
        · refine W_sub [0, 1, 2] [2, 10] (st' := ⟨[(2, .one (.e (.sl 1 0 x3.length))), (10, .one (.e (.sl 2 0 x51.length)))], [.row .acc x1 false, .row .int x3 false, .row .int x51 true]⟩) (by kernel_rfl) ?_
          refine W_skip ?_
          refine thenS_n ?_
          refine W_seq ?_
          refine W_seq ?_
          refine W_region ?_
          refine WO_step 2 [0, 1, 2] [42, 43] True ⟨[(42, .one (.e (.sl 2 0 x51.length))), (43, .one (.e (.sl 1 0 x3.length)))], [.row .acc x1 false, .row .int x3 false, .row .int x51 true]⟩ (by kernel_rfl) trivial ?_
          refine bindO_e h (fun x63 hc64 h => ?_)
          refine WO_call [.ro 1] Try.f34 rfl rfl rfl (by kernel_rfl) rfl rfl (by kernel_rfl) (laws_toIntS_ok n x3 x63 hc64) (And.intro (And.intro rfl rfl) (trivial)) rfl ?_
          refine WO_sub [0, 1, 2, 3] [42, 44] (st' := ⟨[(42, .one (.e (.sl 2 0 x51.length))), (44, .one (.e (.sl 3 0 x63.length)))], [.row .acc x1 false, .row .int x3 false, .row .int x51 true, .row .int x63 true]⟩) (by kernel_rfl) ?_
          refine bindO_e h (fun b65 hc66 h => ?_)
          refine WO_call [.ro 2, .ro 3] Try.f26 rfl rfl rfl (by kernel_rfl) rfl rfl (by kernel_rfl) (laws_eqIntS_ok n x51 x63 b65 hc66) (And.intro (And.intro rfl rfl) (And.intro (And.intro rfl rfl) (trivial))) rfl ?_
          refine WO_step 1 [0, 1] [46] True ⟨[(46, B (!b65))], [.row .acc x1 false, .row .int x3 false]⟩ (by kernel_rfl) trivial ?_
          refine WO_nil rfl ?_
          refine thenS_n ?_
          refine iteO_e h (fun hb68 h => W_true rfl hb68 ?_) (fun hb68 h => W_false rfl hb68 ?_)
          · refine W_seq ?_
            refine W_region ?_
            refine WO_step 1 [0, 1] [6] True ⟨[(6, B false)], [.row .acc x1 false, .row .int x3 false]⟩ (by kernel_rfl) trivial ?_
            refine WO_nil rfl ?_
            refine thenS_n ?_
            refine W_ret ?_
            refine thenS_r ?_
            cases h
            exact ⟨[0, 1], True, by kernel_rfl, trivial⟩
          · refine W_sub [0, 1] [] (st' := ⟨[], [.row .acc x1 false, .row .int x3 false]⟩) (by kernel_rfl) ?_
            refine W_skip ?_
            refine thenS_n ?_
            refine W_seq ?_
            refine W_region ?_
            refine WO_step 1 [0, 1] [6] True ⟨[(6, B true)], [.row .acc x1 false, .row .int x3 false]⟩ (by kernel_rfl) trivial ?_
            refine WO_nil rfl ?_
            refine thenS_n ?_
            refine W_ret ?_
            cases h
            exact ⟨[0, 1], True, by kernel_rfl, trivial⟩

end Go.Proofs.Ytgihnmaaiibmeaa

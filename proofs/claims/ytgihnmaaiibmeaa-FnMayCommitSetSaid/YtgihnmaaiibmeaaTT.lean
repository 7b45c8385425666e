import Derived.Test.YtgihnmaaiibmeaaTT1
namespace Go.Proofs.Ytgihnmaaiibmeaa
open Go
set_option linter.unusedVariables false
/- laws.FnMayCommitMore -/
def laws_FnMayCommitMore (n : Nat) (x1 : List Int) : Option (Bool) :=
 iteO (decide (1048576 < ((x1.length : Nat) : Int)))
 (some true)
 (bindO (spec_DrawMayCommit n x1) fun (x29, x30, i31) =>
 bindO (impl_MayCommit n x29 i31 x30) fun b33 =>
 bindO (spec_MayCommit n x29 i31 x30) fun b35 =>
 iteO ((!(b33 == b35)) || (!b33))
 (bindO (spec_MayCommit n x29 i31 x30) fun b44 =>
 some (b33 == b44))
 (guardO (0 = 0 ∧ ([] : List Int).length = ([] : List Int).length ∧ ([] : List Int).length + ((x30.drop 0).take x30.length).length ≤ 1099511627776) <|
 guardO (0 = 0 ∧ (([] : List Int) ++ ((x30.drop 0).take x30.length)).length = (([] : List Int) ++ ((x30.drop 0).take x30.length)).length ∧ (([] : List Int) ++ ((x30.drop 0).take x30.length)).length + (([2].drop 0).take ([2].length)).length ≤ 1099511627776) <|
 bindO (impl_MayCommit n x29 i31 ((([] : List Int) ++ ((x30.drop 0).take x30.length)) ++ (([2].drop 0).take ([2].length)))) fun b48 =>
 some b48))

theorem laws_FnMayCommitMore_ok (n : Nat) (x1 : List Int) (b26 : Bool) (h : laws_FnMayCommitMore n x1 = some b26) : FOk EE 7 [.one (.e (.sl 0 0 x1.length))] [.row .u8 x1 false] (B b26) [.row .u8 x1 false] := by
  unfold laws_FnMayCommitMore at h
  refine FOk_of_W 44 1 Try.func7 rfl rfl (Nat.le_of_ble_eq_true rfl) rfl (fun w X θ => ?_)
  refine W_seq ?_
  refine W_region ?_
  refine WO_step 1 [0] [0] True ⟨[(0, .one (.e (.sl 0 0 x1.length)))], [.row .u8 x1 false]⟩ (by kernel_rfl) trivial ?_
  refine WO_nil rfl ?_
  refine thenS_n ?_
  refine W_seq ?_
  refine W_seq ?_
  refine W_region ?_
  refine WO_step 3 [0] [0, 9] (True ∧ (True ∧ True)) ⟨[(0, .one (.e (.sl 0 0 x1.length))), (9, B (decide (1048576 < ((x1.length : Nat) : Int))))], [.row .u8 x1 false]⟩ (by kernel_rfl) ⟨trivial, trivial, trivial⟩ ?_
  refine WO_nil rfl ?_
  refine thenS_n ?_
  refine iteO_e h (fun hb28 h => W_true rfl hb28 ?_) (fun hb28 h => W_false rfl hb28 ?_)
  · refine W_seq ?_
    refine W_region ?_
    refine WO_step 1 [0] [2] True ⟨[(2, B true)], [.row .u8 x1 false]⟩ (by kernel_rfl) trivial ?_
    refine WO_nil rfl ?_
    refine thenS_n ?_
    refine W_ret ?_
    refine thenS_r ?_
    cases h
    exact ⟨[0], True, by kernel_rfl, trivial⟩
  · refine W_sub [0] [0] (st' := ⟨[(0, .one (.e (.sl 0 0 x1.length)))], [.row .u8 x1 false]⟩) (by kernel_rfl) ?_
    refine W_skip ?_
    refine thenS_n ?_
    refine W_seq ?_
    refine W_region ?_
    refine WO_step 1 [0] [11] True ⟨[(11, .one (.e (.sl 0 0 x1.length)))], [.row .u8 x1 false]⟩ (by kernel_rfl) trivial ?_
    refine bindO_e h (fun v50 hc32 h => ?_)
    obtain ⟨x29, x30, i31⟩ := v50
    refine WO_call [.ro 0] Try.f21 rfl rfl rfl (by kernel_rfl) rfl rfl (by kernel_rfl) (spec_DrawMayCommit_ok n x1 x29 x30 i31 hc32) (And.intro (And.intro rfl rfl) (trivial)) rfl ?_
    refine WO_step 7 [0, 1, 2] [3, 4, 5] True ⟨[(3, .one (.e (.sl 1 0 x29.length))), (4, I i31), (5, .one (.e (.sl 2 0 x30.length)))], [.row .u8 x1 false, .row .acc x29 true, .row .int x30 true]⟩ (by kernel_rfl) trivial ?_
    refine WO_nil rfl ?_
    refine thenS_n ?_
    refine W_seq ?_
    refine W_region ?_
    refine WO_step 3 [0, 1, 2] [3, 4, 5, 16, 17, 18] True ⟨[(3, .one (.e (.sl 1 0 x29.length))), (4, I i31), (5, .one (.e (.sl 2 0 x30.length))), (16, .one (.e (.sl 1 0 x29.length))), (17, I i31), (18, .one (.e (.sl 2 0 x30.length)))], [.row .u8 x1 false, .row .acc x29 true, .row .int x30 true]⟩ (by kernel_rfl) trivial ?_
    refine bindO_e h (fun b33 hc34 h => ?_)
    refine WO_call [.ro 1, .ro 2] Try.f22 rfl rfl rfl (by kernel_rfl) rfl rfl (by kernel_rfl) (impl_MayCommit_ok n x29 i31 x30 b33 hc34) (And.intro (And.intro rfl rfl) (And.intro (And.intro rfl rfl) (trivial))) rfl ?_
    refine WO_step 1 [0, 1, 2] [3, 4, 5, 6] True ⟨[(3, .one (.e (.sl 1 0 x29.length))), (4, I i31), (5, .one (.e (.sl 2 0 x30.length))), (6, B b33)], [.row .u8 x1 false, .row .acc x29 true, .row .int x30 true]⟩ (by kernel_rfl) trivial ?_
    refine WO_nil rfl ?_
    refine thenS_n ?_
    refine W_seq ?_
    refine W_seq ?_
    refine W_region ?_
    refine WO_step 4 [0, 1, 2] [3, 4, 5, 6, 20, 21, 22, 23] True ⟨[(3, .one (.e (.sl 1 0 x29.length))), (4, I i31), (5, .one (.e (.sl 2 0 x30.length))), (6, B b33), (20, B b33), (21, .one (.e (.sl 1 0 x29.length))), (22, I i31), (23, .one (.e (.sl 2 0 x30.length)))], [.row .u8 x1 false, .row .acc x29 true, .row .int x30 true]⟩ (by kernel_rfl) trivial ?_
    refine bindO_e h (fun b35 hc36 h => ?_)
    refine WO_call [.ro 1, .ro 2] Try.f23 rfl rfl rfl (by kernel_rfl) rfl rfl (by kernel_rfl) (spec_MayCommit_ok n x29 i31 x30 b35 hc36) (And.intro (And.intro rfl rfl) (And.intro (And.intro rfl rfl) (trivial))) rfl ?_
    refine WO_step 2 [0, 1, 2] [3, 4, 5, 6, 26] (True ∧ True) ⟨[(3, .one (.e (.sl 1 0 x29.length))), (4, I i31), (5, .one (.e (.sl 2 0 x30.length))), (6, B b33), (26, B (!(b33 == b35)))], [.row .u8 x1 false, .row .acc x29 true, .row .int x30 true]⟩ (by kernel_rfl) ⟨trivial, trivial⟩ ?_
    refine WO_thru ⟨[(3, .one (.e (.sl 1 0 x29.length))), (4, I i31), (5, .one (.e (.sl 2 0 x30.length))), (6, B b33), (29, B ((!(b33 == b35)) || (!b33)))], [.row .u8 x1 false, .row .acc x29 true, .row .int x30 true]⟩ ?_ ?_
    · refine WO_if 26 rfl (fun hb39 => ?_) (fun hb39 => ?_)
      · refine WO_step 3 [0, 1, 2] [3, 4, 5, 6, 29] True ⟨[(3, .one (.e (.sl 1 0 x29.length))), (4, I i31), (5, .one (.e (.sl 2 0 x30.length))), (6, B b33), (29, B true)], [.row .u8 x1 false, .row .acc x29 true, .row .int x30 true]⟩ (by kernel_rfl) trivial ?_
        exact WO_nil rfl ⟨rfl, by first | rfl | (rw [hb39]; first | done | rfl)⟩
      · refine WO_step 3 [0, 1, 2] [3, 4, 5, 6, 29] True ⟨[(3, .one (.e (.sl 1 0 x29.length))), (4, I i31), (5, .one (.e (.sl 2 0 x30.length))), (6, B b33), (29, B (!b33))], [.row .u8 x1 false, .row .acc x29 true, .row .int x30 true]⟩ (by kernel_rfl) trivial ?_
        exact WO_nil rfl ⟨rfl, by first | rfl | (rw [hb39]; first | done | rfl)⟩
    · refine thenS_n ?_
      refine iteO_e h (fun hb43 h => W_true rfl hb43 ?_) (fun hb43 h => W_false rfl hb43 ?_)
      · refine W_seq ?_
        refine W_region ?_
        refine WO_step 4 [0, 1, 2] [30, 31, 32, 33] True ⟨[(30, B b33), (31, .one (.e (.sl 1 0 x29.length))), (32, I i31), (33, .one (.e (.sl 2 0 x30.length)))], [.row .u8 x1 false, .row .acc x29 true, .row .int x30 true]⟩ (by kernel_rfl) trivial ?_
        refine bindO_e h (fun b44 hc45 h => ?_)
        refine WO_call [.ro 1, .ro 2] Try.f23 rfl rfl rfl (by kernel_rfl) rfl rfl (by kernel_rfl) (spec_MayCommit_ok n x29 i31 x30 b44 hc45) (And.intro (And.intro rfl rfl) (And.intro (And.intro rfl rfl) (trivial))) rfl ?_
        refine WO_step 2 [0] [2] (True ∧ True) ⟨[(2, B (b33 == b44))], [.row .u8 x1 false]⟩ (by kernel_rfl) ⟨trivial, trivial⟩ ?_
        refine WO_nil rfl ?_
        refine thenS_n ?_
        refine W_ret ?_
        refine thenS_r ?_
        cases h
        exact ⟨[0], True, by kernel_rfl, trivial⟩
      · refine W_sub [0, 1, 2] [3, 4, 5] (st' := ⟨[(3, .one (.e (.sl 1 0 x29.length))), (4, I i31), (5, .one (.e (.sl 2 0 x30.length)))], [.row .u8 x1 false, .row .acc x29 true, .row .int x30 true]⟩) (by kernel_rfl) ?_
        refine W_skip ?_
        refine thenS_n ?_
        refine W_seq ?_
        refine W_region ?_
        refine guardO_e h (fun hg46 h => ?_)
        refine guardO_e h (fun hg47 h => ?_)
        refine WO_step 7 [0, 1, 6] [36, 37, 42] ((0 = 0 ∧ ([] : List Int).length = ([] : List Int).length ∧ ([] : List Int).length + ((x30.drop 0).take x30.length).length ≤ 1099511627776) ∧ ((0 = 0 ∧ (([] : List Int) ++ ((x30.drop 0).take x30.length)).length = (([] : List Int) ++ ((x30.drop 0).take x30.length)).length ∧ (([] : List Int) ++ ((x30.drop 0).take x30.length)).length + (([2].drop 0).take ([2].length)).length ≤ 1099511627776) ∧ True)) ⟨[(36, .one (.e (.sl 1 0 x29.length))), (37, I i31), (42, .one (.e (.sl 2 0 (((([] : List Int) ++ ((x30.drop 0).take x30.length)) ++ (([2].drop 0).take ([2].length))).length))))], [.row .u8 x1 false, .row .acc x29 true, .row .int ((([] : List Int) ++ ((x30.drop 0).take x30.length)) ++ (([2].drop 0).take ([2].length))) true]⟩ (by kernel_rfl) ⟨hg46, hg47, trivial⟩ ?_
        refine bindO_e h (fun b48 hc49 h => ?_)
        refine WO_call [.ro 1, .ro 2] Try.f22 rfl rfl rfl (by kernel_rfl) rfl rfl (by kernel_rfl) (impl_MayCommit_ok n x29 i31 ((([] : List Int) ++ ((x30.drop 0).take x30.length)) ++ (([2].drop 0).take ([2].length))) b48 hc49) (And.intro (And.intro rfl rfl) (And.intro (And.intro rfl rfl) (trivial))) rfl ?_
        refine WO_step 1 [0] [2] True ⟨[(2, B b48)], [.row .u8 x1 false]⟩ (by kernel_rfl) trivial ?_
        refine WO_nil rfl ?_
        refine thenS_n ?_
        refine W_ret ?_
        cases h
        exact ⟨[0], True, by kernel_rfl, trivial⟩

/- laws.szAccessS -/
def laws_szAccessS (x1 : List Acc) (i2 : Int) : Option (Int) :=
 iteO (decide ((w64 (i2 - ((x1.length : Nat) : Int))) < 0))
 (some (-1))
 (some (w64 (i2 - ((x1.length : Nat) : Int))))

theorem laws_szAccessS_ok (x1 : List Acc) (i2 : Int) (i5 : Int) (h : laws_szAccessS x1 i2 = some i5) : FOk EE 24 [.one (.e (.sl 0 0 x1.length)), I i2] [.row .acc x1 false] (I i5) [.row .acc x1 false] := by
  unfold laws_szAccessS at h
  refine FOk_of_W 12 1 Try.func24 rfl rfl (Nat.le_of_ble_eq_true rfl) rfl (fun w X θ => ?_)
  refine W_seq ?_
  refine W_region ?_
  refine WO_step 1 [0] [0, 1] True ⟨[(0, .one (.e (.sl 0 0 x1.length))), (1, I i2)], [.row .acc x1 false]⟩ (by kernel_rfl) trivial ?_
  refine WO_nil rfl ?_
  refine thenS_n ?_
  refine W_seq ?_
  refine W_region ?_
  refine WO_step 5 [0] [1] (True ∧ (True ∧ True)) ⟨[(1, I (w64 (i2 - ((x1.length : Nat) : Int))))], [.row .acc x1 false]⟩ (by kernel_rfl) ⟨trivial, trivial, trivial⟩ ?_
  refine WO_nil rfl ?_
  refine thenS_n ?_
  refine W_seq ?_
  refine W_seq ?_
  refine W_region ?_
  refine WO_step 2 [0] [1, 10] (True ∧ True) ⟨[(1, I (w64 (i2 - ((x1.length : Nat) : Int)))), (10, B (decide ((w64 (i2 - ((x1.length : Nat) : Int))) < 0)))], [.row .acc x1 false]⟩ (by kernel_rfl) ⟨trivial, trivial⟩ ?_
  refine WO_nil rfl ?_
  refine thenS_n ?_
  refine iteO_e h (fun hb7 h => W_true rfl hb7 ?_) (fun hb7 h => W_false rfl hb7 ?_)
  · refine W_seq ?_
    refine W_region ?_
    refine WO_step 1 [0] [4] True ⟨[(4, I (-1))], [.row .acc x1 false]⟩ (by kernel_rfl) trivial ?_
    refine WO_nil rfl ?_
    refine thenS_n ?_
    refine W_ret ?_
    refine thenS_r ?_
    cases h
    exact ⟨[0], True, by kernel_rfl, trivial⟩
  · refine W_sub [0] [1] (st' := ⟨[(1, I (w64 (i2 - ((x1.length : Nat) : Int))))], [.row .acc x1 false]⟩) (by kernel_rfl) ?_
    refine W_skip ?_
    refine thenS_n ?_
    refine W_seq ?_
    refine W_region ?_
    refine WO_step 2 [0] [4] True ⟨[(4, I (w64 (i2 - ((x1.length : Nat) : Int))))], [.row .acc x1 false]⟩ (by kernel_rfl) trivial ?_
    refine WO_nil rfl ?_
    refine thenS_n ?_
    refine W_ret ?_
    cases h
    exact ⟨[0], True, by kernel_rfl, trivial⟩

/- laws.toAccess -/
def laws_toAccess (x1 : Acc) : Option (Int × Int × Bool) :=
 some (x1.who, x1.node, x1.write)

theorem laws_toAccess_ok (x1 : Acc) (i2 : Int) (i3 : Int) (b4 : Bool) (h : laws_toAccess x1 = some (i2, i3, b4)) : FOk EE 45 [AGG [cI x1.who, cI x1.node, cB x1.write]] [] (AGG [cI i2, cI i3, cB b4]) [] := by
  unfold laws_toAccess at h
  refine FOk_of_W 14 0 Try.func45 rfl rfl (Nat.le_of_ble_eq_true rfl) rfl (fun w X θ => ?_)
  refine W_seq ?_
  refine W_region ?_
  refine WO_step 2 [0, 1] [1, 2] (True ∧ (True ∧ True)) ⟨[(1, .one (.e (.p 0 0))), (2, .one (.e (.p 1 0)))], [.cells [cI x1.who, cI x1.node, cB x1.write], .cells [cI 0, cI 0, cB false]]⟩ (by kernel_rfl) ⟨trivial, trivial, trivial⟩ ?_
  refine WO_nil rfl ?_
  refine thenS_n ?_
  refine W_seq ?_
  refine W_region ?_
  refine WO_step 1 [0, 1, 2] [1, 2, 3] (True ∧ True) ⟨[(1, .one (.e (.p 0 0))), (2, .one (.e (.p 1 0))), (3, .one (.e (.p 2 0)))], [.cells [cI x1.who, cI x1.node, cB x1.write], .cells [cI 0, cI 0, cB false], .cells [cI 0, cI 0, cB false]]⟩ (by kernel_rfl) ⟨trivial, trivial⟩ ?_
  refine WO_nil rfl ?_
  refine thenS_n ?_
  refine W_seq ?_
  refine W_region ?_
  refine WO_step 4 [0, 1, 2] [1, 2, 3] (True ∧ (True ∧ True)) ⟨[(1, .one (.e (.p 0 0))), (2, .one (.e (.p 1 0))), (3, .one (.e (.p 2 0)))], [.cells [cI x1.who, cI x1.node, cB x1.write], .cells [cI 0, cI 0, cB false], .cells [cI x1.who, cI 0, cB false]]⟩ (by kernel_rfl) ⟨trivial, trivial, trivial⟩ ?_
  refine WO_nil rfl ?_
  refine thenS_n ?_
  refine W_seq ?_
  refine W_region ?_
  refine WO_step 4 [0, 1, 2] [1, 2, 3] (True ∧ (True ∧ True)) ⟨[(1, .one (.e (.p 0 0))), (2, .one (.e (.p 1 0))), (3, .one (.e (.p 2 0)))], [.cells [cI x1.who, cI x1.node, cB x1.write], .cells [cI 0, cI 0, cB false], .cells [cI x1.who, cI x1.node, cB false]]⟩ (by kernel_rfl) ⟨trivial, trivial, trivial⟩ ?_
  refine WO_nil rfl ?_
  refine thenS_n ?_
  refine W_seq ?_
  refine W_region ?_
  refine WO_step 4 [1, 2] [2, 3] (True ∧ (True ∧ True)) ⟨[(2, .one (.e (.p 0 0))), (3, .one (.e (.p 1 0)))], [.cells [cI 0, cI 0, cB false], .cells [cI x1.who, cI x1.node, cB x1.write]]⟩ (by kernel_rfl) ⟨trivial, trivial, trivial⟩ ?_
  refine WO_nil rfl ?_
  refine thenS_n ?_
  refine W_seq ?_
  refine W_region ?_
  refine WO_step 2 [0] [2] (True ∧ (True ∧ True)) ⟨[(2, .one (.e (.p 0 0)))], [.cells [cI x1.who, cI x1.node, cB x1.write]]⟩ (by kernel_rfl) ⟨trivial, trivial, trivial⟩ ?_
  refine WO_nil rfl ?_
  refine thenS_n ?_
  refine W_ret ?_
  cases h
  exact ⟨[], True, by kernel_rfl, trivial⟩

/- laws.toAccessS -/
def laws_toAccessS_L1 (x1 : List Acc) : Nat → (List Acc) → Int → Option ((List Acc))
| 0, _, _ => none
| n + 1, x87, i88 =>
 iteO (decide (i88 < ((x1.length : Nat) : Int)))
 (guardO (0 ≤ i88 ∧ i88 < ((x1.length : Nat) : Int)) <|
 bindO (laws_toAccess (x1.getD i88.toNat dacc)) fun (i119, i120, b121) =>
 guardO (0 ≤ i88 ∧ i88 < ((x87.length : Nat) : Int)) <|
 laws_toAccessS_L1 x1 n (x87.set i88.toNat (⟨i119, i120, b121⟩ : Acc)) (w64 (i88 + 1)))
 (some x87)

theorem laws_toAccessS_L1_ok (w : World) (X : Nat → Prop) (θ : List Loc) (x1 : List Acc) (x107 : (List Acc)) : ∀ (n : Nat) (x87 : List Acc) (i88 : Int), laws_toAccessS_L1 x1 n x87 i88 = some x107 → WL EE ⟨w, X, θ, 23, 1⟩ (subC [1, 1, 0, 1, 4, 4] (bodyC Try.f25)) (fun (e : Exit) (s : St) => e = .exit 0 ∧ s = ⟨[(3, .one (.e (.sl 1 0 x107.length)))], [.row .acc x1 false, .row .acc x107 true]⟩) ⟨[(0, .one (.e (.sl 0 0 x1.length))), (3, .one (.e (.sl 1 0 x87.length))), (4, I i88)], [.row .acc x1 false, .row .acc x87 true]⟩ := by
  intro n
  induction n with
  | zero => intro _ _ h; exact none_e h
  | succ n ih =>
    intro x87 i88 h
    rw [laws_toAccessS_L1] at h
    refine WL_round ?_
    refine W_seq ?_
    refine W_seq ?_
    refine W_region ?_
    refine WO_step 4 [0, 1] [0, 3, 4, 11] (True ∧ (True ∧ True)) ⟨[(0, .one (.e (.sl 0 0 x1.length))), (3, .one (.e (.sl 1 0 x87.length))), (4, I i88), (11, B (decide (i88 < ((x1.length : Nat) : Int))))], [.row .acc x1 false, .row .acc x87 true]⟩ (by kernel_rfl) ⟨trivial, trivial, trivial⟩ ?_
    refine WO_nil rfl ?_
    refine thenS_n ?_
    refine iteO_e h (fun hb110 h => W_true rfl hb110 ?_) (fun hb110 h => W_false rfl hb110 ?_)
    · refine W_sub [0, 1] [0, 3, 4] (st' := ⟨[(0, .one (.e (.sl 0 0 x1.length))), (3, .one (.e (.sl 1 0 x87.length))), (4, I i88)], [.row .acc x1 false, .row .acc x87 true]⟩) (by kernel_rfl) ?_
      refine W_skip ?_
      refine thenS_n ?_
      refine W_seq ?_
      refine W_block ?_
      refine W_region ?_
      refine guardO_e h (fun hg118 h => ?_)
      refine WO_step 6 [0, 1] [0, 3, 4, 14, 15, 19] ((0 ≤ i88 ∧ i88 < ((x1.length : Nat) : Int)) ∧ (True ∧ True)) ⟨[(0, .one (.e (.sl 0 0 x1.length))), (3, .one (.e (.sl 1 0 x87.length))), (4, I i88), (14, .one (.e (.sl 1 0 x87.length))), (15, I i88), (19, AGG [cI ((x1.getD i88.toNat dacc).who), cI ((x1.getD i88.toNat dacc).node), cB ((x1.getD i88.toNat dacc).write)])], [.row .acc x1 false, .row .acc x87 true]⟩ (by kernel_rfl) ⟨hg118, trivial, trivial⟩ ?_
      refine bindO_e h (fun v124 hc122 h => ?_)
      obtain ⟨i119, i120, b121⟩ := v124
      refine WO_call [] Try.f45 rfl rfl rfl (by kernel_rfl) rfl rfl (by kernel_rfl) (laws_toAccess_ok (x1.getD i88.toNat dacc) i119 i120 b121 hc122) (trivial) rfl ?_
      refine guardO_e h (fun hg123 h => ?_)
      refine WO_step 2 [0, 1] [0, 3, 4] ((0 ≤ i88 ∧ i88 < ((x87.length : Nat) : Int)) ∧ (True ∧ True)) ⟨[(0, .one (.e (.sl 0 0 x1.length))), (3, .one (.e (.sl 1 0 x87.length))), (4, I i88)], [.row .acc x1 false, .row .acc (x87.set i88.toNat (⟨i119, i120, b121⟩ : Acc)) true]⟩ (by kernel_rfl) ⟨hg123, trivial, trivial⟩ ?_
      refine WO_eq (st' := ⟨[(0, .one (.e (.sl 0 0 x1.length))), (3, .one (.e (.sl 1 0 ((x87.set i88.toNat (⟨i119, i120, b121⟩ : Acc)).length)))), (4, I i88)], [.row .acc x1 false, .row .acc (x87.set i88.toNat (⟨i119, i120, b121⟩ : Acc)) true]⟩) (by simp only [List.length_set]) ?_
      refine WO_nil rfl ?_
      refine blockS_n ?_
      refine thenS_n ?_
      refine W_region ?_
      refine WO_step 3 [0, 1] [0, 3, 4] (True ∧ True) ⟨[(0, .one (.e (.sl 0 0 x1.length))), (3, .one (.e (.sl 1 0 ((x87.set i88.toNat (⟨i119, i120, b121⟩ : Acc)).length)))), (4, I (w64 (i88 + 1)))], [.row .acc x1 false, .row .acc (x87.set i88.toNat (⟨i119, i120, b121⟩ : Acc)) true]⟩ (by kernel_rfl) ⟨trivial, trivial⟩ ?_
      refine WO_nil rfl ?_
      refine thenS_n ?_
      exact ih _ _ h
    · refine W_sub [0, 1] [3] (st' := ⟨[(3, .one (.e (.sl 1 0 x87.length)))], [.row .acc x1 false, .row .acc x87 true]⟩) (by kernel_rfl) ?_
      refine W_exit ?_
      refine thenS_e ?_
      refine thenS_e ?_
      cases h
      exact And.intro rfl rfl

def laws_toAccessS (n : Nat) (x1 : List Acc) : Option ((List Acc)) :=
 guardO ((((x1.length : Nat) : Int) : Int) = ((x1.length : Nat) : Int) ∧ 0 ≤ ((x1.length : Nat) : Int) ∧ ((x1.length : Nat) : Int) ≤ 1099511627776) <|
 bindO (laws_toAccessS_L1 x1 n (List.replicate (((x1.length : Nat) : Int).toNat) dacc) 0) fun x107 =>
 some x107

theorem laws_toAccessS_ok (n : Nat) (x1 : List Acc) (x63 : List Acc) (h : laws_toAccessS n x1 = some x63) : FOk EE 25 [.one (.e (.sl 0 0 x1.length))] [.row .acc x1 false] (.one (.e (.sl 1 0 x63.length))) [.row .acc x1 false, .row .acc x63 true] := by
  unfold laws_toAccessS at h
  refine FOk_of_W 23 1 Try.func25 rfl rfl (Nat.le_of_ble_eq_true rfl) rfl (fun w X θ => ?_)
  refine W_seq ?_
  refine W_region ?_
  refine WO_step 1 [0] [0] True ⟨[(0, .one (.e (.sl 0 0 x1.length)))], [.row .acc x1 false]⟩ (by kernel_rfl) trivial ?_
  refine WO_nil rfl ?_
  refine thenS_n ?_
  refine W_seq ?_
  refine W_region ?_
  refine guardO_e h (fun hg64 h => ?_)
  refine WO_step 4 [0, 1] [0, 3] (True ∧ (((((x1.length : Nat) : Int) : Int) = ((x1.length : Nat) : Int) ∧ 0 ≤ ((x1.length : Nat) : Int) ∧ ((x1.length : Nat) : Int) ≤ 1099511627776) ∧ True)) ⟨[(0, .one (.e (.sl 0 0 x1.length))), (3, .one (.e (.sl 1 0 ((List.replicate (((x1.length : Nat) : Int).toNat) dacc).length))))], [.row .acc x1 false, .row .acc (List.replicate (((x1.length : Nat) : Int).toNat) dacc) true]⟩ (by kernel_rfl) ⟨trivial, hg64, trivial⟩ ?_
  refine WO_nil rfl ?_
  refine thenS_n ?_
  refine W_seq ?_
  refine W_seq ?_
  refine W_region ?_
  refine WO_step 1 [0, 1] [0, 3, 4] True ⟨[(0, .one (.e (.sl 0 0 x1.length))), (3, .one (.e (.sl 1 0 ((List.replicate (((x1.length : Nat) : Int).toNat) dacc).length)))), (4, I 0)], [.row .acc x1 false, .row .acc (List.replicate (((x1.length : Nat) : Int).toNat) dacc) true]⟩ (by kernel_rfl) trivial ?_
  refine WO_nil rfl ?_
  refine thenS_n ?_
  refine W_block ?_
  refine W_loop ?_
  refine bindO_e h (fun x107 hx107 h => ?_)
  refine WL_cut (laws_toAccessS_L1_ok w X θ x1 x107 n (List.replicate (((x1.length : Nat) : Int).toNat) dacc) 0 hx107) ?_
  rintro _ _ ⟨rfl, rfl⟩
  refine blockS_y ?_
  refine thenS_n ?_
  refine W_seq ?_
  refine W_region ?_
  refine WO_step 2 [0, 1] [2] True ⟨[(2, .one (.e (.sl 1 0 x107.length)))], [.row .acc x1 false, .row .acc x107 true]⟩ (by kernel_rfl) trivial ?_
  refine WO_nil rfl ?_
  refine thenS_n ?_
  refine W_ret ?_
  cases h
  exact ⟨[0, 1], True, by kernel_rfl, trivial⟩

/- laws.eqIntS -/
def laws_eqIntS_L1 (x1 : List Int) (x2 : List Int) : Nat → Int → Option ((Unit) ⊕ (Unit))
| 0, _ => none
| n + 1, i57 =>
 iteO (decide (i57 < ((x1.length : Nat) : Int)))
 (guardO (0 ≤ i57 ∧ i57 < ((x1.length : Nat) : Int)) <|
 guardO (0 ≤ i57 ∧ i57 < ((x2.length : Nat) : Int)) <|
 iteO (!decide ((x1.getD i57.toNat 0) = (x2.getD i57.toNat 0)))
 (some (.inl ()))
 (laws_eqIntS_L1 x1 x2 n (w64 (i57 + 1))))
 (some (.inr ()))

theorem laws_eqIntS_L1_ok (w : World) (X : Nat → Prop) (θ : List Loc) (x1 : List Int) (x2 : List Int) (v : (Unit) ⊕ (Unit)) : ∀ (n : Nat) (i57 : Int), laws_eqIntS_L1 x1 x2 n i57 = some v → WL EE ⟨w, X, θ, 26, 2⟩ (subC [1, 1, 0, 1, 4, 4] (bodyC Try.f26)) (fun (e : Exit) (s : St) => (match v with | (.inl _) => e = .ret ∧ s = ⟨[(4, B false)], [.row .int x1 false, .row .int x2 false]⟩ | (.inr _) => e = .exit 0 ∧ s = ⟨[], [.row .int x1 false, .row .int x2 false]⟩ : Prop)) ⟨[(0, .one (.e (.sl 0 0 x1.length))), (1, .one (.e (.sl 1 0 x2.length))), (5, I i57)], [.row .int x1 false, .row .int x2 false]⟩ := by
  intro n
  induction n with
  | zero => intro _ h; exact none_e h
  | succ n ih =>
    intro i57 h
    rw [laws_eqIntS_L1] at h
    refine WL_round ?_
    refine W_seq ?_
    refine W_seq ?_
    refine W_region ?_
    refine WO_step 4 [0, 1] [0, 1, 5, 14] (True ∧ (True ∧ True)) ⟨[(0, .one (.e (.sl 0 0 x1.length))), (1, .one (.e (.sl 1 0 x2.length))), (5, I i57), (14, B (decide (i57 < ((x1.length : Nat) : Int))))], [.row .int x1 false, .row .int x2 false]⟩ (by kernel_rfl) ⟨trivial, trivial, trivial⟩ ?_
    refine WO_nil rfl ?_
    refine thenS_n ?_
    refine iteO_e h (fun hb71 h => W_true rfl hb71 ?_) (fun hb71 h => W_false rfl hb71 ?_)
    · refine W_sub [0, 1] [0, 1, 5] (st' := ⟨[(0, .one (.e (.sl 0 0 x1.length))), (1, .one (.e (.sl 1 0 x2.length))), (5, I i57)], [.row .int x1 false, .row .int x2 false]⟩) (by kernel_rfl) ?_
      refine W_skip ?_
      refine thenS_n ?_
      refine W_seq ?_
      refine W_block ?_
      refine W_seq ?_
      refine guardO_e h (fun hg76 h => ?_)
      refine guardO_e h (fun hg77 h => ?_)
      refine W_cut (Q' := fun (e : Exit) (s : St) => e = .normal ∧ s = ⟨[(0, .one (.e (.sl 0 0 x1.length))), (1, .one (.e (.sl 1 0 x2.length))), (5, I i57), (25, B (!decide ((x1.getD i57.toNat 0) = (x2.getD i57.toNat 0))))], [.row .int x1 false, .row .int x2 false]⟩) ?_ ?_
      · refine W_draw [] true (by kernel_rfl) (by kernel_rfl) ?_
        refine WD_takeK [0, 1, 2, 3, 4, 5, 6, 7, 8] [0, 1, 5, 25] [0, 1, 5, 25] (φ := ((0 ≤ i57 ∧ i57 < ((x1.length : Nat) : Int)) ∧ (0 ≤ i57 ∧ i57 < ((x1.length : Nat) : Int)) ∧ (True ∧ True ∧ ((0 ≤ i57 ∧ i57 < ((x2.length : Nat) : Int)) ∧ (0 ≤ i57 ∧ i57 < ((x2.length : Nat) : Int)) ∧ (True ∧ True ∧ (True ∧ True ∧ True)))))) (ls' := #[true, true, true, true, true, true, true, true, true]) (Ts' := [(0, .one (.e (.sl 0 0 x1.length))), (1, .one (.e (.sl 1 0 x2.length))), (5, I i57), (25, B (!decide ((x1.getD i57.toNat 0) = (x2.getD i57.toNat 0))))]) (st' := ⟨[(0, .one (.e (.sl 0 0 x1.length))), (1, .one (.e (.sl 1 0 x2.length))), (5, I i57), (25, B (!decide ((x1.getD i57.toNat 0) = (x2.getD i57.toNat 0))))], [.row .int x1 false, .row .int x2 false]⟩) (n2 := 0) (by kernel_rfl) ⟨hg76, hg76, trivial, trivial, hg77, hg77, trivial, trivial, trivial, trivial, trivial⟩ rfl ?_
        exact WD_done [0, 1] [0, 1, 5, 25] (st' := ⟨[(0, .one (.e (.sl 0 0 x1.length))), (1, .one (.e (.sl 1 0 x2.length))), (5, I i57), (25, B (!decide ((x1.getD i57.toNat 0) = (x2.getD i57.toNat 0))))], [.row .int x1 false, .row .int x2 false]⟩) (by kernel_rfl) (by kernel_rfl) (And.intro rfl rfl)
      · rintro _ _ ⟨rfl, rfl⟩
        refine thenS_n ?_
        refine iteO_e h (fun hb79 h => W_true rfl hb79 ?_) (fun hb79 h => W_false rfl hb79 ?_)
        · refine W_seq ?_
          refine W_region ?_
          refine WO_step 1 [0, 1] [4] True ⟨[(4, B false)], [.row .int x1 false, .row .int x2 false]⟩ (by kernel_rfl) trivial ?_
          refine WO_nil rfl ?_
          refine thenS_n ?_
          refine W_ret ?_
          refine blockS_r ?_
          refine thenS_r ?_
          refine thenS_r ?_
          cases h
          exact And.intro rfl rfl
        · refine W_sub [0, 1] [0, 1, 5] (st' := ⟨[(0, .one (.e (.sl 0 0 x1.length))), (1, .one (.e (.sl 1 0 x2.length))), (5, I i57)], [.row .int x1 false, .row .int x2 false]⟩) (by kernel_rfl) ?_
          refine W_skip ?_
          refine blockS_n ?_
          refine thenS_n ?_
          refine W_region ?_
          refine WO_step 3 [0, 1] [0, 1, 5] (True ∧ True) ⟨[(0, .one (.e (.sl 0 0 x1.length))), (1, .one (.e (.sl 1 0 x2.length))), (5, I (w64 (i57 + 1)))], [.row .int x1 false, .row .int x2 false]⟩ (by kernel_rfl) ⟨trivial, trivial⟩ ?_
          refine WO_nil rfl ?_
          refine thenS_n ?_
          exact ih _ h
    · refine W_sub [0, 1] [] (st' := ⟨[], [.row .int x1 false, .row .int x2 false]⟩) (by kernel_rfl) ?_
      refine W_exit ?_
      refine thenS_e ?_
      refine thenS_e ?_
      cases h
      exact And.intro rfl rfl

def laws_eqIntS (n : Nat) (x1 : List Int) (x2 : List Int) : Option (Bool) :=
 iteO (!decide (((x1.length : Nat) : Int) = ((x2.length : Nat) : Int)))
 (some false)
 (bindO (laws_eqIntS_L1 x1 x2 n 0) fun v80 =>
 match v80 with
 | (.inl _) => (some false)
 | (.inr _) => (some true)
)

theorem laws_eqIntS_ok (n : Nat) (x1 : List Int) (x2 : List Int) (b41 : Bool) (h : laws_eqIntS n x1 x2 = some b41) : FOk EE 26 [.one (.e (.sl 0 0 x1.length)), .one (.e (.sl 1 0 x2.length))] [.row .int x1 false, .row .int x2 false] (B b41) [.row .int x1 false, .row .int x2 false] := by
  unfold laws_eqIntS at h
  refine FOk_of_W 26 2 Try.func26 rfl rfl (Nat.le_of_ble_eq_true rfl) rfl (fun w X θ => ?_)
  refine W_seq ?_
  refine W_region ?_
  refine WO_step 1 [0, 1] [0, 1] True ⟨[(0, .one (.e (.sl 0 0 x1.length))), (1, .one (.e (.sl 1 0 x2.length)))], [.row .int x1 false, .row .int x2 false]⟩ (by kernel_rfl) trivial ?_
  refine WO_nil rfl ?_
  refine thenS_n ?_
  refine W_seq ?_
  refine W_seq ?_
  refine W_region ?_
  refine WO_step 5 [0, 1] [0, 1, 10] (True ∧ (True ∧ (True ∧ True))) ⟨[(0, .one (.e (.sl 0 0 x1.length))), (1, .one (.e (.sl 1 0 x2.length))), (10, B (!decide (((x1.length : Nat) : Int) = ((x2.length : Nat) : Int))))], [.row .int x1 false, .row .int x2 false]⟩ (by kernel_rfl) ⟨trivial, trivial, trivial, trivial⟩ ?_
  refine WO_nil rfl ?_
  refine thenS_n ?_
  refine iteO_e h (fun hb43 h => W_true rfl hb43 ?_) (fun hb43 h => W_false rfl hb43 ?_)
  · refine W_seq ?_
    refine W_region ?_
    refine WO_step 1 [0, 1] [4] True ⟨[(4, B false)], [.row .int x1 false, .row .int x2 false]⟩ (by kernel_rfl) trivial ?_
    refine WO_nil rfl ?_
    refine thenS_n ?_
    refine W_ret ?_
    refine thenS_r ?_
    cases h
    exact ⟨[0, 1], True, by kernel_rfl, trivial⟩
  · refine W_sub [0, 1] [0, 1] (st' := ⟨[(0, .one (.e (.sl 0 0 x1.length))), (1, .one (.e (.sl 1 0 x2.length)))], [.row .int x1 false, .row .int x2 false]⟩) (by kernel_rfl) ?_
    refine W_skip ?_
    refine thenS_n ?_
    refine W_seq ?_
    refine W_seq ?_
    refine W_region ?_
    refine WO_step 1 [0, 1] [0, 1, 5] True ⟨[(0, .one (.e (.sl 0 0 x1.length))), (1, .one (.e (.sl 1 0 x2.length))), (5, I 0)], [.row .int x1 false, .row .int x2 false]⟩ (by kernel_rfl) trivial ?_
    refine WO_nil rfl ?_
    refine thenS_n ?_
    refine W_block ?_
    refine W_loop ?_
    refine bindO_e h (fun v80 hv80 h => ?_)
    refine WL_cut (laws_eqIntS_L1_ok w X θ x1 x2 v80 n 0 hv80) ?_
    rcases v80 with _ | _
    · rintro _ _ ⟨rfl, rfl⟩
      refine blockS_r ?_
      refine thenS_r ?_
      cases h
      exact ⟨[0, 1], True, by kernel_rfl, trivial⟩
    · rintro _ _ ⟨rfl, rfl⟩
      refine blockS_y ?_
      refine thenS_n ?_
      refine W_seq ?_
      refine W_region ?_
      refine WO_step 1 [0, 1] [4] True ⟨[(4, B true)], [.row .int x1 false, .row .int x2 false]⟩ (by kernel_rfl) trivial ?_
      refine WO_nil rfl ?_
      refine thenS_n ?_
      refine W_ret ?_
      cases h
      exact ⟨[0, 1], True, by kernel_rfl, trivial⟩

/- laws.eqAccess -/
def laws_eqAccess (x1 : Acc) (x2 : Acc) : Option (Bool) :=
 iteO (!decide (x1.who = x2.who))
 (some false)
 (iteO (!decide (x1.node = x2.node))
 (some false)
 (iteO (!(x1.write == x2.write))
 (some false)
 (some true)))

theorem laws_eqAccess_ok (x1 : Acc) (x2 : Acc) (b9 : Bool) (h : laws_eqAccess x1 x2 = some b9) : FOk EE 46 [AGG [cI x1.who, cI x1.node, cB x1.write], AGG [cI x2.who, cI x2.node, cB x2.write]] [] (B b9) [] := by
  unfold laws_eqAccess at h
  refine FOk_of_W 20 0 Try.func46 rfl rfl (Nat.le_of_ble_eq_true rfl) rfl (fun w X θ => ?_)
  refine W_seq ?_
  refine W_region ?_
  refine WO_step 3 [0, 1] [2, 3] (True ∧ (True ∧ True)) ⟨[(2, .one (.e (.p 0 0))), (3, .one (.e (.p 1 0)))], [.cells [cI x1.who, cI x1.node, cB x1.write], .cells [cI x2.who, cI x2.node, cB x2.write]]⟩ (by kernel_rfl) ⟨trivial, trivial, trivial⟩ ?_
  refine WO_nil rfl ?_
  refine thenS_n ?_
  refine W_seq ?_
  refine W_seq ?_
  refine W_region ?_
  refine WO_step 5 [0, 1] [2, 3, 9] (True ∧ (True ∧ (True ∧ True))) ⟨[(2, .one (.e (.p 0 0))), (3, .one (.e (.p 1 0))), (9, B (!decide (x1.who = x2.who)))], [.cells [cI x1.who, cI x1.node, cB x1.write], .cells [cI x2.who, cI x2.node, cB x2.write]]⟩ (by kernel_rfl) ⟨trivial, trivial, trivial, trivial⟩ ?_
  refine WO_nil rfl ?_
  refine thenS_n ?_
  refine iteO_e h (fun hb11 h => W_true rfl hb11 ?_) (fun hb11 h => W_false rfl hb11 ?_)
  · refine W_seq ?_
    refine W_region ?_
    refine WO_step 1 [] [4] True ⟨[(4, B false)], []⟩ (by kernel_rfl) trivial ?_
    refine WO_nil rfl ?_
    refine thenS_n ?_
    refine W_ret ?_
    refine thenS_r ?_
    cases h
    exact ⟨[], True, by kernel_rfl, trivial⟩
  · refine W_sub [0, 1] [2, 3] (st' := ⟨[(2, .one (.e (.p 0 0))), (3, .one (.e (.p 1 0)))], [.cells [cI x1.who, cI x1.node, cB x1.write], .cells [cI x2.who, cI x2.node, cB x2.write]]⟩) (by kernel_rfl) ?_
    refine W_skip ?_
    refine thenS_n ?_
    refine W_seq ?_
    refine W_seq ?_
    refine W_region ?_
    refine WO_step 5 [0, 1] [2, 3, 14] (True ∧ (True ∧ (True ∧ True))) ⟨[(2, .one (.e (.p 0 0))), (3, .one (.e (.p 1 0))), (14, B (!decide (x1.node = x2.node)))], [.cells [cI x1.who, cI x1.node, cB x1.write], .cells [cI x2.who, cI x2.node, cB x2.write]]⟩ (by kernel_rfl) ⟨trivial, trivial, trivial, trivial⟩ ?_
    refine WO_nil rfl ?_
    refine thenS_n ?_
    refine iteO_e h (fun hb13 h => W_true rfl hb13 ?_) (fun hb13 h => W_false rfl hb13 ?_)
    · refine W_seq ?_
      refine W_region ?_
      refine WO_step 1 [] [4] True ⟨[(4, B false)], []⟩ (by kernel_rfl) trivial ?_
      refine WO_nil rfl ?_
      refine thenS_n ?_
      refine W_ret ?_
      refine thenS_r ?_
      cases h
      exact ⟨[], True, by kernel_rfl, trivial⟩
    · refine W_sub [0, 1] [2, 3] (st' := ⟨[(2, .one (.e (.p 0 0))), (3, .one (.e (.p 1 0)))], [.cells [cI x1.who, cI x1.node, cB x1.write], .cells [cI x2.who, cI x2.node, cB x2.write]]⟩) (by kernel_rfl) ?_
      refine W_skip ?_
      refine thenS_n ?_
      refine W_seq ?_
      refine W_seq ?_
      refine W_region ?_
      refine WO_step 5 [] [19] (True ∧ (True ∧ (True ∧ True))) ⟨[(19, B (!(x1.write == x2.write)))], []⟩ (by kernel_rfl) ⟨trivial, trivial, trivial, trivial⟩ ?_
      refine WO_nil rfl ?_
      refine thenS_n ?_
      refine iteO_e h (fun hb15 h => W_true rfl hb15 ?_) (fun hb15 h => W_false rfl hb15 ?_)
      · refine W_seq ?_
        refine W_region ?_
        refine WO_step 1 [] [4] True ⟨[(4, B false)], []⟩ (by kernel_rfl) trivial ?_
        refine WO_nil rfl ?_
        refine thenS_n ?_
        refine W_ret ?_
        refine thenS_r ?_
        cases h
        exact ⟨[], True, by kernel_rfl, trivial⟩
      · refine W_sub [] [] (st' := ⟨[], []⟩) (by kernel_rfl) ?_
        refine W_skip ?_
        refine thenS_n ?_
        refine W_seq ?_
        refine W_region ?_
        refine WO_step 1 [] [4] True ⟨[(4, B true)], []⟩ (by kernel_rfl) trivial ?_
        refine WO_nil rfl ?_
        refine thenS_n ?_
        refine W_ret ?_
        cases h
        exact ⟨[], True, by kernel_rfl, trivial⟩

/- laws.eqAccessS -/
def laws_eqAccessS_L1 (x1 : List Acc) (x2 : List Acc) : Nat → Int → Option ((Unit) ⊕ (Unit))
| 0, _ => none
| n + 1, i73 =>
 iteO (decide (i73 < ((x1.length : Nat) : Int)))
 (guardO (0 ≤ i73 ∧ i73 < ((x1.length : Nat) : Int)) <|
 guardO (0 ≤ i73 ∧ i73 < ((x2.length : Nat) : Int)) <|
 bindO (laws_eqAccess (x1.getD i73.toNat dacc) (x2.getD i73.toNat dacc)) fun b100 =>
 iteO (!b100)
 (some (.inl ()))
 (laws_eqAccessS_L1 x1 x2 n (w64 (i73 + 1))))
 (some (.inr ()))

theorem laws_eqAccessS_L1_ok (w : World) (X : Nat → Prop) (θ : List Loc) (x1 : List Acc) (x2 : List Acc) (v : (Unit) ⊕ (Unit)) : ∀ (n : Nat) (i73 : Int), laws_eqAccessS_L1 x1 x2 n i73 = some v → WL EE ⟨w, X, θ, 27, 2⟩ (subC [1, 1, 0, 1, 4, 4] (bodyC Try.f27)) (fun (e : Exit) (s : St) => (match v with | (.inl _) => e = .ret ∧ s = ⟨[(4, B false)], [.row .acc x1 false, .row .acc x2 false]⟩ | (.inr _) => e = .exit 0 ∧ s = ⟨[], [.row .acc x1 false, .row .acc x2 false]⟩ : Prop)) ⟨[(0, .one (.e (.sl 0 0 x1.length))), (1, .one (.e (.sl 1 0 x2.length))), (5, I i73)], [.row .acc x1 false, .row .acc x2 false]⟩ := by
  intro n
  induction n with
  | zero => intro _ h; exact none_e h
  | succ n ih =>
    intro i73 h
    rw [laws_eqAccessS_L1] at h
    refine WL_round ?_
    refine W_seq ?_
    refine W_seq ?_
    refine W_region ?_
    refine WO_step 4 [0, 1] [0, 1, 5, 14] (True ∧ (True ∧ True)) ⟨[(0, .one (.e (.sl 0 0 x1.length))), (1, .one (.e (.sl 1 0 x2.length))), (5, I i73), (14, B (decide (i73 < ((x1.length : Nat) : Int))))], [.row .acc x1 false, .row .acc x2 false]⟩ (by kernel_rfl) ⟨trivial, trivial, trivial⟩ ?_
    refine WO_nil rfl ?_
    refine thenS_n ?_
    refine iteO_e h (fun hb91 h => W_true rfl hb91 ?_) (fun hb91 h => W_false rfl hb91 ?_)
    · refine W_sub [0, 1] [0, 1, 5] (st' := ⟨[(0, .one (.e (.sl 0 0 x1.length))), (1, .one (.e (.sl 1 0 x2.length))), (5, I i73)], [.row .acc x1 false, .row .acc x2 false]⟩) (by kernel_rfl) ?_
      refine W_skip ?_
      refine thenS_n ?_
      refine W_seq ?_
      refine W_block ?_
      refine W_seq ?_
      refine guardO_e h (fun hg98 h => ?_)
      refine guardO_e h (fun hg99 h => ?_)
      refine bindO_e h (fun b100 hc101 h => ?_)
      refine W_cut (Q' := fun (e : Exit) (s : St) => e = .normal ∧ s = ⟨[(0, .one (.e (.sl 0 0 x1.length))), (1, .one (.e (.sl 1 0 x2.length))), (5, I i73), (26, B (!b100))], [.row .acc x1 false, .row .acc x2 false]⟩) ?_ ?_
      · refine W_draw [] false (by kernel_rfl) (by kernel_rfl) ?_
        refine WD_takeK [0, 1, 2, 3, 4, 5, 6, 7] [0, 1, 5, 20, 24] [0, 1, 5, 20, 24] (φ := ((0 ≤ i73 ∧ i73 < ((x1.length : Nat) : Int)) ∧ (0 ≤ i73 ∧ i73 < ((x1.length : Nat) : Int)) ∧ (True ∧ True ∧ ((0 ≤ i73 ∧ i73 < ((x2.length : Nat) : Int)) ∧ (0 ≤ i73 ∧ i73 < ((x2.length : Nat) : Int)) ∧ (True ∧ True ∧ True))))) (ls' := #[true, true, true, true, true, true, true, true, false, false]) (Ts' := [(0, .one (.e (.sl 0 0 x1.length))), (1, .one (.e (.sl 1 0 x2.length))), (5, I i73), (20, AGG [cI ((x1.getD i73.toNat dacc).who), cI ((x1.getD i73.toNat dacc).node), cB ((x1.getD i73.toNat dacc).write)]), (24, AGG [cI ((x2.getD i73.toNat dacc).who), cI ((x2.getD i73.toNat dacc).node), cB ((x2.getD i73.toNat dacc).write)])]) (st' := ⟨[(0, .one (.e (.sl 0 0 x1.length))), (1, .one (.e (.sl 1 0 x2.length))), (5, I i73), (20, AGG [cI ((x1.getD i73.toNat dacc).who), cI ((x1.getD i73.toNat dacc).node), cB ((x1.getD i73.toNat dacc).write)]), (24, AGG [cI ((x2.getD i73.toNat dacc).who), cI ((x2.getD i73.toNat dacc).node), cB ((x2.getD i73.toNat dacc).write)])], [.row .acc x1 false, .row .acc x2 false]⟩) (n2 := 2) (by kernel_rfl) ⟨hg98, hg98, trivial, trivial, hg99, hg99, trivial, trivial, trivial⟩ rfl ?_
        refine WD_all [8] (n := 1) (by kernel_rfl) rfl ?_
        refine WM_call [] Try.f46 rfl rfl (by kernel_rfl) rfl rfl (by kernel_rfl) (laws_eqAccess_ok (x1.getD i73.toNat dacc) (x2.getD i73.toNat dacc) b100 hc101) (trivial) rfl (And.intro rfl (And.intro rfl (trivial))) ?_
        refine WD_takeK [9] [0, 1, 5, 26] [0, 1, 5, 26] (φ := True) (ls' := #[true, true, true, true, true, true, true, true, true, true]) (Ts' := [(0, .one (.e (.sl 0 0 x1.length))), (1, .one (.e (.sl 1 0 x2.length))), (5, I i73), (26, B (!b100))]) (st' := ⟨[(0, .one (.e (.sl 0 0 x1.length))), (1, .one (.e (.sl 1 0 x2.length))), (5, I i73), (26, B (!b100))], [.row .acc x1 false, .row .acc x2 false]⟩) (n2 := 0) (by kernel_rfl) trivial rfl ?_
        exact WD_done [0, 1] [0, 1, 5, 26] (st' := ⟨[(0, .one (.e (.sl 0 0 x1.length))), (1, .one (.e (.sl 1 0 x2.length))), (5, I i73), (26, B (!b100))], [.row .acc x1 false, .row .acc x2 false]⟩) (by kernel_rfl) (by kernel_rfl) (And.intro rfl rfl)
      · rintro _ _ ⟨rfl, rfl⟩
        refine thenS_n ?_
        refine iteO_e h (fun hb103 h => W_true rfl hb103 ?_) (fun hb103 h => W_false rfl hb103 ?_)
        · refine W_seq ?_
          refine W_region ?_
          refine WO_step 1 [0, 1] [4] True ⟨[(4, B false)], [.row .acc x1 false, .row .acc x2 false]⟩ (by kernel_rfl) trivial ?_
          refine WO_nil rfl ?_
          refine thenS_n ?_
          refine W_ret ?_
          refine blockS_r ?_
          refine thenS_r ?_
          refine thenS_r ?_
          cases h
          exact And.intro rfl rfl
        · refine W_sub [0, 1] [0, 1, 5] (st' := ⟨[(0, .one (.e (.sl 0 0 x1.length))), (1, .one (.e (.sl 1 0 x2.length))), (5, I i73)], [.row .acc x1 false, .row .acc x2 false]⟩) (by kernel_rfl) ?_
          refine W_skip ?_
          refine blockS_n ?_
          refine thenS_n ?_
          refine W_region ?_
          refine WO_step 3 [0, 1] [0, 1, 5] (True ∧ True) ⟨[(0, .one (.e (.sl 0 0 x1.length))), (1, .one (.e (.sl 1 0 x2.length))), (5, I (w64 (i73 + 1)))], [.row .acc x1 false, .row .acc x2 false]⟩ (by kernel_rfl) ⟨trivial, trivial⟩ ?_
          refine WO_nil rfl ?_
          refine thenS_n ?_
          exact ih _ h
    · refine W_sub [0, 1] [] (st' := ⟨[], [.row .acc x1 false, .row .acc x2 false]⟩) (by kernel_rfl) ?_
      refine W_exit ?_
      refine thenS_e ?_
      refine thenS_e ?_
      cases h
      exact And.intro rfl rfl

def laws_eqAccessS (n : Nat) (x1 : List Acc) (x2 : List Acc) : Option (Bool) :=
 iteO (!decide (((x1.length : Nat) : Int) = ((x2.length : Nat) : Int)))
 (some false)
 (bindO (laws_eqAccessS_L1 x1 x2 n 0) fun v104 =>
 match v104 with
 | (.inl _) => (some false)
 | (.inr _) => (some true)
)

theorem laws_eqAccessS_ok (n : Nat) (x1 : List Acc) (x2 : List Acc) (b53 : Bool) (h : laws_eqAccessS n x1 x2 = some b53) : FOk EE 27 [.one (.e (.sl 0 0 x1.length)), .one (.e (.sl 1 0 x2.length))] [.row .acc x1 false, .row .acc x2 false] (B b53) [.row .acc x1 false, .row .acc x2 false] := by
  unfold laws_eqAccessS at h
  refine FOk_of_W 27 2 Try.func27 rfl rfl (Nat.le_of_ble_eq_true rfl) rfl (fun w X θ => ?_)
  refine W_seq ?_
  refine W_region ?_
  refine WO_step 1 [0, 1] [0, 1] True ⟨[(0, .one (.e (.sl 0 0 x1.length))), (1, .one (.e (.sl 1 0 x2.length)))], [.row .acc x1 false, .row .acc x2 false]⟩ (by kernel_rfl) trivial ?_
  refine WO_nil rfl ?_
  refine thenS_n ?_
  refine W_seq ?_
  refine W_seq ?_
  refine W_region ?_
  refine WO_step 5 [0, 1] [0, 1, 10] (True ∧ (True ∧ (True ∧ True))) ⟨[(0, .one (.e (.sl 0 0 x1.length))), (1, .one (.e (.sl 1 0 x2.length))), (10, B (!decide (((x1.length : Nat) : Int) = ((x2.length : Nat) : Int))))], [.row .acc x1 false, .row .acc x2 false]⟩ (by kernel_rfl) ⟨trivial, trivial, trivial, trivial⟩ ?_
  refine WO_nil rfl ?_
  refine thenS_n ?_
  refine iteO_e h (fun hb55 h => W_true rfl hb55 ?_) (fun hb55 h => W_false rfl hb55 ?_)
  · refine W_seq ?_
    refine W_region ?_
    refine WO_step 1 [0, 1] [4] True ⟨[(4, B false)], [.row .acc x1 false, .row .acc x2 false]⟩ (by kernel_rfl) trivial ?_
    refine WO_nil rfl ?_
    refine thenS_n ?_
    refine W_ret ?_
    refine thenS_r ?_
    cases h
    exact ⟨[0, 1], True, by kernel_rfl, trivial⟩
  · refine W_sub [0, 1] [0, 1] (st' := ⟨[(0, .one (.e (.sl 0 0 x1.length))), (1, .one (.e (.sl 1 0 x2.length)))], [.row .acc x1 false, .row .acc x2 false]⟩) (by kernel_rfl) ?_
    refine W_skip ?_
    refine thenS_n ?_
    refine W_seq ?_
    refine W_seq ?_
    refine W_region ?_
    refine WO_step 1 [0, 1] [0, 1, 5] True ⟨[(0, .one (.e (.sl 0 0 x1.length))), (1, .one (.e (.sl 1 0 x2.length))), (5, I 0)], [.row .acc x1 false, .row .acc x2 false]⟩ (by kernel_rfl) trivial ?_
    refine WO_nil rfl ?_
    refine thenS_n ?_
    refine W_block ?_
    refine W_loop ?_
    refine bindO_e h (fun v104 hv104 h => ?_)
    refine WL_cut (laws_eqAccessS_L1_ok w X θ x1 x2 v104 n 0 hv104) ?_
    rcases v104 with _ | _
    · rintro _ _ ⟨rfl, rfl⟩
      refine blockS_r ?_
      refine thenS_r ?_
      cases h
      exact ⟨[0, 1], True, by kernel_rfl, trivial⟩
    · rintro _ _ ⟨rfl, rfl⟩
      refine blockS_y ?_
      refine thenS_n ?_
      refine W_seq ?_
      refine W_region ?_
      refine WO_step 1 [0, 1] [4] True ⟨[(4, B true)], [.row .acc x1 false, .row .acc x2 false]⟩ (by kernel_rfl) trivial ?_
      refine WO_nil rfl ?_
      refine thenS_n ?_
      refine W_ret ?_
      cases h
      exact ⟨[0, 1], True, by kernel_rfl, trivial⟩

/- laws.markAccessS -/
def laws_markAccessS_L1 (k2 : Nat) : Nat → (List Acc) → Int → Int → Option (((List Acc) × Int))
| 0, _, _, _ => none
| n + 1, x65, i66, i67 =>
 iteO (decide (i67 < ((k2 : Nat) : Int)))
 (guardO (0 ≤ i67 ∧ i67 < ((k2 : Nat) : Int)) <|
 guardO (0 ≤ i67 ∧ i67 < ((k2 : Nat) : Int)) <|
 guardO (0 ≤ i67 ∧ i67 < ((k2 : Nat) : Int)) <|
 laws_markAccessS_L1 k2 n (((x65.set i67.toNat (⟨i66, (x65.getD i67.toNat dacc).node, (x65.getD i67.toNat dacc).write⟩ : Acc)).set i67.toNat (⟨((x65.set i67.toNat (⟨i66, (x65.getD i67.toNat dacc).node, (x65.getD i67.toNat dacc).write⟩ : Acc)).getD i67.toNat dacc).who, (w64 (i66 + 1)), ((x65.set i67.toNat (⟨i66, (x65.getD i67.toNat dacc).node, (x65.getD i67.toNat dacc).write⟩ : Acc)).getD i67.toNat dacc).write⟩ : Acc)).set i67.toNat (⟨(((x65.set i67.toNat (⟨i66, (x65.getD i67.toNat dacc).node, (x65.getD i67.toNat dacc).write⟩ : Acc)).set i67.toNat (⟨((x65.set i67.toNat (⟨i66, (x65.getD i67.toNat dacc).node, (x65.getD i67.toNat dacc).write⟩ : Acc)).getD i67.toNat dacc).who, (w64 (i66 + 1)), ((x65.set i67.toNat (⟨i66, (x65.getD i67.toNat dacc).node, (x65.getD i67.toNat dacc).write⟩ : Acc)).getD i67.toNat dacc).write⟩ : Acc)).getD i67.toNat dacc).who, (((x65.set i67.toNat (⟨i66, (x65.getD i67.toNat dacc).node, (x65.getD i67.toNat dacc).write⟩ : Acc)).set i67.toNat (⟨((x65.set i67.toNat (⟨i66, (x65.getD i67.toNat dacc).node, (x65.getD i67.toNat dacc).write⟩ : Acc)).getD i67.toNat dacc).who, (w64 (i66 + 1)), ((x65.set i67.toNat (⟨i66, (x65.getD i67.toNat dacc).node, (x65.getD i67.toNat dacc).write⟩ : Acc)).getD i67.toNat dacc).write⟩ : Acc)).getD i67.toNat dacc).node, (decide (((w64 ((w64 (i66 + 1)) + 1)).tmod 3) = 0))⟩ : Acc)) (w64 ((w64 ((w64 (i66 + 1)) + 1)) + 1)) (w64 (i67 + 1)))
 (some (x65, i66))

theorem laws_markAccessS_L1_ok (w : World) (X : Nat → Prop) (θ : List Loc) (k2 : Nat) (v : ((List Acc) × Int)) : ∀ (n : Nat) (x65 : List Acc) (i66 : Int) (i67 : Int), laws_markAccessS_L1 k2 n x65 i66 i67 = some v → WL EE ⟨w, X, θ, 36, 1⟩ (subC [1, 0, 1, 4, 4] (bodyC Try.f28)) (fun (e : Exit) (s : St) => (match v with | (x79, i80) => e = .exit 0 ∧ s = ⟨[(1, I i80)], [.row .acc x79 true]⟩ : Prop)) ⟨[(0, .one (.e (.sl 0 0 k2))), (1, I i66), (5, I i67)], [.row .acc x65 true]⟩ := by
  intro n
  induction n with
  | zero => intro _ _ _ h; exact none_e h
  | succ n ih =>
    intro x65 i66 i67 h
    rw [laws_markAccessS_L1] at h
    refine WL_round ?_
    refine W_seq ?_
    refine W_seq ?_
    refine W_region ?_
    refine WO_step 4 [0] [0, 1, 5, 9] (True ∧ (True ∧ True)) ⟨[(0, .one (.e (.sl 0 0 k2))), (1, I i66), (5, I i67), (9, B (decide (i67 < ((k2 : Nat) : Int))))], [.row .acc x65 true]⟩ (by kernel_rfl) ⟨trivial, trivial, trivial⟩ ?_
    refine WO_nil rfl ?_
    refine thenS_n ?_
    refine iteO_e h (fun hb83 h => W_true rfl hb83 ?_) (fun hb83 h => W_false rfl hb83 ?_)
    · refine W_sub [0] [0, 1, 5] (st' := ⟨[(0, .one (.e (.sl 0 0 k2))), (1, I i66), (5, I i67)], [.row .acc x65 true]⟩) (by kernel_rfl) ?_
      refine W_skip ?_
      refine thenS_n ?_
      refine W_seq ?_
      refine W_block ?_
      refine W_seq ?_
      refine W_region ?_
      refine guardO_e h (fun hg87 h => ?_)
      refine WO_step 6 [0] [0, 1, 5] ((0 ≤ i67 ∧ i67 < ((k2 : Nat) : Int)) ∧ (True ∧ True)) ⟨[(0, .one (.e (.sl 0 0 k2))), (1, I i66), (5, I i67)], [.row .acc (x65.set i67.toNat (⟨i66, (x65.getD i67.toNat dacc).node, (x65.getD i67.toNat dacc).write⟩ : Acc)) true]⟩ (by kernel_rfl) ⟨hg87, trivial, trivial⟩ ?_
      refine WO_nil rfl ?_
      refine thenS_n ?_
      refine W_seq ?_
      refine W_region ?_
      refine WO_step 3 [0] [0, 1, 5] (True ∧ True) ⟨[(0, .one (.e (.sl 0 0 k2))), (1, I (w64 (i66 + 1))), (5, I i67)], [.row .acc (x65.set i67.toNat (⟨i66, (x65.getD i67.toNat dacc).node, (x65.getD i67.toNat dacc).write⟩ : Acc)) true]⟩ (by kernel_rfl) ⟨trivial, trivial⟩ ?_
      refine WO_nil rfl ?_
      refine thenS_n ?_
      refine W_seq ?_
      refine W_region ?_
      refine guardO_e h (fun hg88 h => ?_)
      refine WO_step 6 [0] [0, 1, 5] ((0 ≤ i67 ∧ i67 < ((k2 : Nat) : Int)) ∧ (True ∧ True)) ⟨[(0, .one (.e (.sl 0 0 k2))), (1, I (w64 (i66 + 1))), (5, I i67)], [.row .acc ((x65.set i67.toNat (⟨i66, (x65.getD i67.toNat dacc).node, (x65.getD i67.toNat dacc).write⟩ : Acc)).set i67.toNat (⟨((x65.set i67.toNat (⟨i66, (x65.getD i67.toNat dacc).node, (x65.getD i67.toNat dacc).write⟩ : Acc)).getD i67.toNat dacc).who, (w64 (i66 + 1)), ((x65.set i67.toNat (⟨i66, (x65.getD i67.toNat dacc).node, (x65.getD i67.toNat dacc).write⟩ : Acc)).getD i67.toNat dacc).write⟩ : Acc)) true]⟩ (by kernel_rfl) ⟨hg88, trivial, trivial⟩ ?_
      refine WO_nil rfl ?_
      refine thenS_n ?_
      refine W_seq ?_
      refine W_region ?_
      refine WO_step 3 [0] [0, 1, 5] (True ∧ True) ⟨[(0, .one (.e (.sl 0 0 k2))), (1, I (w64 ((w64 (i66 + 1)) + 1))), (5, I i67)], [.row .acc ((x65.set i67.toNat (⟨i66, (x65.getD i67.toNat dacc).node, (x65.getD i67.toNat dacc).write⟩ : Acc)).set i67.toNat (⟨((x65.set i67.toNat (⟨i66, (x65.getD i67.toNat dacc).node, (x65.getD i67.toNat dacc).write⟩ : Acc)).getD i67.toNat dacc).who, (w64 (i66 + 1)), ((x65.set i67.toNat (⟨i66, (x65.getD i67.toNat dacc).node, (x65.getD i67.toNat dacc).write⟩ : Acc)).getD i67.toNat dacc).write⟩ : Acc)) true]⟩ (by kernel_rfl) ⟨trivial, trivial⟩ ?_
      refine WO_nil rfl ?_
      refine thenS_n ?_
      refine W_seq ?_
      refine W_region ?_
      refine guardO_e h (fun hg89 h => ?_)
      refine WO_step 8 [0] [0, 1, 5] (((3 : Int) ≠ 0) ∧ (True ∧ ((0 ≤ i67 ∧ i67 < ((k2 : Nat) : Int)) ∧ (True ∧ True)))) ⟨[(0, .one (.e (.sl 0 0 k2))), (1, I (w64 ((w64 (i66 + 1)) + 1))), (5, I i67)], [.row .acc (((x65.set i67.toNat (⟨i66, (x65.getD i67.toNat dacc).node, (x65.getD i67.toNat dacc).write⟩ : Acc)).set i67.toNat (⟨((x65.set i67.toNat (⟨i66, (x65.getD i67.toNat dacc).node, (x65.getD i67.toNat dacc).write⟩ : Acc)).getD i67.toNat dacc).who, (w64 (i66 + 1)), ((x65.set i67.toNat (⟨i66, (x65.getD i67.toNat dacc).node, (x65.getD i67.toNat dacc).write⟩ : Acc)).getD i67.toNat dacc).write⟩ : Acc)).set i67.toNat (⟨(((x65.set i67.toNat (⟨i66, (x65.getD i67.toNat dacc).node, (x65.getD i67.toNat dacc).write⟩ : Acc)).set i67.toNat (⟨((x65.set i67.toNat (⟨i66, (x65.getD i67.toNat dacc).node, (x65.getD i67.toNat dacc).write⟩ : Acc)).getD i67.toNat dacc).who, (w64 (i66 + 1)), ((x65.set i67.toNat (⟨i66, (x65.getD i67.toNat dacc).node, (x65.getD i67.toNat dacc).write⟩ : Acc)).getD i67.toNat dacc).write⟩ : Acc)).getD i67.toNat dacc).who, (((x65.set i67.toNat (⟨i66, (x65.getD i67.toNat dacc).node, (x65.getD i67.toNat dacc).write⟩ : Acc)).set i67.toNat (⟨((x65.set i67.toNat (⟨i66, (x65.getD i67.toNat dacc).node, (x65.getD i67.toNat dacc).write⟩ : Acc)).getD i67.toNat dacc).who, (w64 (i66 + 1)), ((x65.set i67.toNat (⟨i66, (x65.getD i67.toNat dacc).node, (x65.getD i67.toNat dacc).write⟩ : Acc)).getD i67.toNat dacc).write⟩ : Acc)).getD i67.toNat dacc).node, (decide (((w64 ((w64 (i66 + 1)) + 1)).tmod 3) = 0))⟩ : Acc)) true]⟩ (by kernel_rfl) ⟨(by decide), trivial, hg89, trivial, trivial⟩ ?_
      refine WO_nil rfl ?_
      refine thenS_n ?_
      refine W_region ?_
      refine WO_step 3 [0] [0, 1, 5] (True ∧ True) ⟨[(0, .one (.e (.sl 0 0 k2))), (1, I (w64 ((w64 ((w64 (i66 + 1)) + 1)) + 1))), (5, I i67)], [.row .acc (((x65.set i67.toNat (⟨i66, (x65.getD i67.toNat dacc).node, (x65.getD i67.toNat dacc).write⟩ : Acc)).set i67.toNat (⟨((x65.set i67.toNat (⟨i66, (x65.getD i67.toNat dacc).node, (x65.getD i67.toNat dacc).write⟩ : Acc)).getD i67.toNat dacc).who, (w64 (i66 + 1)), ((x65.set i67.toNat (⟨i66, (x65.getD i67.toNat dacc).node, (x65.getD i67.toNat dacc).write⟩ : Acc)).getD i67.toNat dacc).write⟩ : Acc)).set i67.toNat (⟨(((x65.set i67.toNat (⟨i66, (x65.getD i67.toNat dacc).node, (x65.getD i67.toNat dacc).write⟩ : Acc)).set i67.toNat (⟨((x65.set i67.toNat (⟨i66, (x65.getD i67.toNat dacc).node, (x65.getD i67.toNat dacc).write⟩ : Acc)).getD i67.toNat dacc).who, (w64 (i66 + 1)), ((x65.set i67.toNat (⟨i66, (x65.getD i67.toNat dacc).node, (x65.getD i67.toNat dacc).write⟩ : Acc)).getD i67.toNat dacc).write⟩ : Acc)).getD i67.toNat dacc).who, (((x65.set i67.toNat (⟨i66, (x65.getD i67.toNat dacc).node, (x65.getD i67.toNat dacc).write⟩ : Acc)).set i67.toNat (⟨((x65.set i67.toNat (⟨i66, (x65.getD i67.toNat dacc).node, (x65.getD i67.toNat dacc).write⟩ : Acc)).getD i67.toNat dacc).who, (w64 (i66 + 1)), ((x65.set i67.toNat (⟨i66, (x65.getD i67.toNat dacc).node, (x65.getD i67.toNat dacc).write⟩ : Acc)).getD i67.toNat dacc).write⟩ : Acc)).getD i67.toNat dacc).node, (decide (((w64 ((w64 (i66 + 1)) + 1)).tmod 3) = 0))⟩ : Acc)) true]⟩ (by kernel_rfl) ⟨trivial, trivial⟩ ?_
      refine WO_nil rfl ?_
      refine blockS_n ?_
      refine thenS_n ?_
      refine W_region ?_
      refine WO_step 3 [0] [0, 1, 5] (True ∧ True) ⟨[(0, .one (.e (.sl 0 0 k2))), (1, I (w64 ((w64 ((w64 (i66 + 1)) + 1)) + 1))), (5, I (w64 (i67 + 1)))], [.row .acc (((x65.set i67.toNat (⟨i66, (x65.getD i67.toNat dacc).node, (x65.getD i67.toNat dacc).write⟩ : Acc)).set i67.toNat (⟨((x65.set i67.toNat (⟨i66, (x65.getD i67.toNat dacc).node, (x65.getD i67.toNat dacc).write⟩ : Acc)).getD i67.toNat dacc).who, (w64 (i66 + 1)), ((x65.set i67.toNat (⟨i66, (x65.getD i67.toNat dacc).node, (x65.getD i67.toNat dacc).write⟩ : Acc)).getD i67.toNat dacc).write⟩ : Acc)).set i67.toNat (⟨(((x65.set i67.toNat (⟨i66, (x65.getD i67.toNat dacc).node, (x65.getD i67.toNat dacc).write⟩ : Acc)).set i67.toNat (⟨((x65.set i67.toNat (⟨i66, (x65.getD i67.toNat dacc).node, (x65.getD i67.toNat dacc).write⟩ : Acc)).getD i67.toNat dacc).who, (w64 (i66 + 1)), ((x65.set i67.toNat (⟨i66, (x65.getD i67.toNat dacc).node, (x65.getD i67.toNat dacc).write⟩ : Acc)).getD i67.toNat dacc).write⟩ : Acc)).getD i67.toNat dacc).who, (((x65.set i67.toNat (⟨i66, (x65.getD i67.toNat dacc).node, (x65.getD i67.toNat dacc).write⟩ : Acc)).set i67.toNat (⟨((x65.set i67.toNat (⟨i66, (x65.getD i67.toNat dacc).node, (x65.getD i67.toNat dacc).write⟩ : Acc)).getD i67.toNat dacc).who, (w64 (i66 + 1)), ((x65.set i67.toNat (⟨i66, (x65.getD i67.toNat dacc).node, (x65.getD i67.toNat dacc).write⟩ : Acc)).getD i67.toNat dacc).write⟩ : Acc)).getD i67.toNat dacc).node, (decide (((w64 ((w64 (i66 + 1)) + 1)).tmod 3) = 0))⟩ : Acc)) true]⟩ (by kernel_rfl) ⟨trivial, trivial⟩ ?_
      refine WO_nil rfl ?_
      refine thenS_n ?_
      exact ih _ _ _ h
    · refine W_sub [0] [1] (st' := ⟨[(1, I i66)], [.row .acc x65 true]⟩) (by kernel_rfl) ?_
      refine W_exit ?_
      refine thenS_e ?_
      refine thenS_e ?_
      cases h
      exact And.intro rfl rfl

def laws_markAccessS (n : Nat) (x1 : List Acc) (k2 : Nat) (i3 : Int) : Option ((List Acc) × Int) :=
 bindO (laws_markAccessS_L1 k2 n x1 i3 0) fun v90 =>
 match v90 with
 | (x79, i80) => (some (x79, i80))


theorem laws_markAccessS_ok (n : Nat) (x1 : List Acc) (k2 : Nat) (i3 : Int) (x46 : List Acc) (i47 : Int) (h : laws_markAccessS n x1 k2 i3 = some (x46, i47)) : FOk EE 28 [.one (.e (.sl 0 0 k2)), I i3] [.row .acc x1 true] (I i47) [.row .acc x46 true] := by
  unfold laws_markAccessS at h
  refine FOk_of_W 36 1 Try.func28 rfl rfl (Nat.le_of_ble_eq_true rfl) rfl (fun w X θ => ?_)
  refine W_seq ?_
  refine W_region ?_
  refine WO_step 1 [0] [0, 1] True ⟨[(0, .one (.e (.sl 0 0 k2))), (1, I i3)], [.row .acc x1 true]⟩ (by kernel_rfl) trivial ?_
  refine WO_nil rfl ?_
  refine thenS_n ?_
  refine W_seq ?_
  refine W_seq ?_
  refine W_region ?_
  refine WO_step 1 [0] [0, 1, 5] True ⟨[(0, .one (.e (.sl 0 0 k2))), (1, I i3), (5, I 0)], [.row .acc x1 true]⟩ (by kernel_rfl) trivial ?_
  refine WO_nil rfl ?_
  refine thenS_n ?_
  refine W_block ?_
  refine W_loop ?_
  refine bindO_e h (fun v90 hv90 h => ?_)
  refine WL_cut (laws_markAccessS_L1_ok w X θ k2 v90 n x1 i3 0 hv90) ?_
  obtain ⟨x79, i80⟩ := v90
  rintro _ _ ⟨rfl, rfl⟩
  refine blockS_y ?_
  refine thenS_n ?_
  refine W_seq ?_
  refine W_region ?_
  refine WO_step 2 [0] [4] True ⟨[(4, I i80)], [.row .acc x79 true]⟩ (by kernel_rfl) trivial ?_
  refine WO_nil rfl ?_
  refine thenS_n ?_
  refine W_ret ?_
  cases h
  exact ⟨[0], True, by kernel_rfl, trivial⟩

/- laws.markIntS -/
def laws_markIntS_L1 (k2 : Nat) : Nat → (List Int) → Int → Int → Option (((List Int) × Int))
| 0, _, _, _ => none
| n + 1, x49, i50, i51 =>
 iteO (decide (i51 < ((k2 : Nat) : Int)))
 (guardO (0 ≤ i51 ∧ i51 < ((k2 : Nat) : Int)) <|
 laws_markIntS_L1 k2 n (x49.set i51.toNat i50) (w64 (i50 + 1)) (w64 (i51 + 1)))
 (some (x49, i50))

theorem laws_markIntS_L1_ok (w : World) (X : Nat → Prop) (θ : List Loc) (k2 : Nat) (v : ((List Int) × Int)) : ∀ (n : Nat) (x49 : List Int) (i50 : Int) (i51 : Int), laws_markIntS_L1 k2 n x49 i50 i51 = some v → WL EE ⟨w, X, θ, 19, 1⟩ (subC [1, 0, 1, 4, 4] (bodyC Try.f29)) (fun (e : Exit) (s : St) => (match v with | (x59, i60) => e = .exit 0 ∧ s = ⟨[(1, I i60)], [.row .int x59 true]⟩ : Prop)) ⟨[(0, .one (.e (.sl 0 0 k2))), (1, I i50), (5, I i51)], [.row .int x49 true]⟩ := by
  intro n
  induction n with
  | zero => intro _ _ _ h; exact none_e h
  | succ n ih =>
    intro x49 i50 i51 h
    rw [laws_markIntS_L1] at h
    refine WL_round ?_
    refine W_seq ?_
    refine W_seq ?_
    refine W_region ?_
    refine WO_step 4 [0] [0, 1, 5, 9] (True ∧ (True ∧ True)) ⟨[(0, .one (.e (.sl 0 0 k2))), (1, I i50), (5, I i51), (9, B (decide (i51 < ((k2 : Nat) : Int))))], [.row .int x49 true]⟩ (by kernel_rfl) ⟨trivial, trivial, trivial⟩ ?_
    refine WO_nil rfl ?_
    refine thenS_n ?_
    refine iteO_e h (fun hb63 h => W_true rfl hb63 ?_) (fun hb63 h => W_false rfl hb63 ?_)
    · refine W_sub [0] [0, 1, 5] (st' := ⟨[(0, .one (.e (.sl 0 0 k2))), (1, I i50), (5, I i51)], [.row .int x49 true]⟩) (by kernel_rfl) ?_
      refine W_skip ?_
      refine thenS_n ?_
      refine W_seq ?_
      refine W_block ?_
      refine W_seq ?_
      refine W_region ?_
      refine guardO_e h (fun hg65 h => ?_)
      refine WO_step 5 [0] [0, 1, 5] ((0 ≤ i51 ∧ i51 < ((k2 : Nat) : Int)) ∧ (True ∧ True)) ⟨[(0, .one (.e (.sl 0 0 k2))), (1, I i50), (5, I i51)], [.row .int (x49.set i51.toNat i50) true]⟩ (by kernel_rfl) ⟨hg65, trivial, trivial⟩ ?_
      refine WO_nil rfl ?_
      refine thenS_n ?_
      refine W_region ?_
      refine WO_step 3 [0] [0, 1, 5] (True ∧ True) ⟨[(0, .one (.e (.sl 0 0 k2))), (1, I (w64 (i50 + 1))), (5, I i51)], [.row .int (x49.set i51.toNat i50) true]⟩ (by kernel_rfl) ⟨trivial, trivial⟩ ?_
      refine WO_nil rfl ?_
      refine blockS_n ?_
      refine thenS_n ?_
      refine W_region ?_
      refine WO_step 3 [0] [0, 1, 5] (True ∧ True) ⟨[(0, .one (.e (.sl 0 0 k2))), (1, I (w64 (i50 + 1))), (5, I (w64 (i51 + 1)))], [.row .int (x49.set i51.toNat i50) true]⟩ (by kernel_rfl) ⟨trivial, trivial⟩ ?_
      refine WO_nil rfl ?_
      refine thenS_n ?_
      exact ih _ _ _ h
    · refine W_sub [0] [1] (st' := ⟨[(1, I i50)], [.row .int x49 true]⟩) (by kernel_rfl) ?_
      refine W_exit ?_
      refine thenS_e ?_
      refine thenS_e ?_
      cases h
      exact And.intro rfl rfl

def laws_markIntS (n : Nat) (x1 : List Int) (k2 : Nat) (i3 : Int) : Option ((List Int) × Int) :=
 bindO (laws_markIntS_L1 k2 n x1 i3 0) fun v66 =>
 match v66 with
 | (x59, i60) => (some (x59, i60))


theorem laws_markIntS_ok (n : Nat) (x1 : List Int) (k2 : Nat) (i3 : Int) (x34 : List Int) (i35 : Int) (h : laws_markIntS n x1 k2 i3 = some (x34, i35)) : FOk EE 29 [.one (.e (.sl 0 0 k2)), I i3] [.row .int x1 true] (I i35) [.row .int x34 true] := by
  unfold laws_markIntS at h
  refine FOk_of_W 19 1 Try.func29 rfl rfl (Nat.le_of_ble_eq_true rfl) rfl (fun w X θ => ?_)
  refine W_seq ?_
  refine W_region ?_
  refine WO_step 1 [0] [0, 1] True ⟨[(0, .one (.e (.sl 0 0 k2))), (1, I i3)], [.row .int x1 true]⟩ (by kernel_rfl) trivial ?_
  refine WO_nil rfl ?_
  refine thenS_n ?_
  refine W_seq ?_
  refine W_seq ?_
  refine W_region ?_
  refine WO_step 1 [0] [0, 1, 5] True ⟨[(0, .one (.e (.sl 0 0 k2))), (1, I i3), (5, I 0)], [.row .int x1 true]⟩ (by kernel_rfl) trivial ?_
  refine WO_nil rfl ?_
  refine thenS_n ?_
  refine W_block ?_
  refine W_loop ?_
  refine bindO_e h (fun v66 hv66 h => ?_)
  refine WL_cut (laws_markIntS_L1_ok w X θ k2 v66 n x1 i3 0 hv66) ?_
  obtain ⟨x59, i60⟩ := v66
  rintro _ _ ⟨rfl, rfl⟩
  refine blockS_y ?_
  refine thenS_n ?_
  refine W_seq ?_
  refine W_region ?_
  refine WO_step 2 [0] [4] True ⟨[(4, I i60)], [.row .int x59 true]⟩ (by kernel_rfl) trivial ?_
  refine WO_nil rfl ?_
  refine thenS_n ?_
  refine W_ret ?_
  cases h
  exact ⟨[0], True, by kernel_rfl, trivial⟩

/- laws.heldIntS -/
def laws_heldIntS_L1 (x1 : List Int) : Nat → Int → Int → Option ((Unit) ⊕ (Int))
| 0, _, _ => none
| n + 1, i54, i55 =>
 iteO (decide (i55 < ((x1.length : Nat) : Int)))
 (guardO (0 ≤ i55 ∧ i55 < ((x1.length : Nat) : Int)) <|
 iteO (!decide ((x1.getD i55.toNat 0) = i54))
 (some (.inl ()))
 (laws_heldIntS_L1 x1 n (w64 (i54 + 1)) (w64 (i55 + 1))))
 (some (.inr i54))

theorem laws_heldIntS_L1_ok (w : World) (X : Nat → Prop) (θ : List Loc) (x1 : List Int) (v : (Unit) ⊕ (Int)) : ∀ (n : Nat) (i54 : Int) (i55 : Int), laws_heldIntS_L1 x1 n i54 i55 = some v → WL EE ⟨w, X, θ, 21, 1⟩ (subC [1, 0, 1, 4, 4] (bodyC Try.f30)) (fun (e : Exit) (s : St) => (match v with | (.inl _) => e = .ret ∧ s = ⟨[(4, I (-1))], [.row .int x1 false]⟩ | (.inr i66) => e = .exit 0 ∧ s = ⟨[(1, I i66)], [.row .int x1 false]⟩ : Prop)) ⟨[(0, .one (.e (.sl 0 0 x1.length))), (1, I i54), (5, I i55)], [.row .int x1 false]⟩ := by
  intro n
  induction n with
  | zero => intro _ _ h; exact none_e h
  | succ n ih =>
    intro i54 i55 h
    rw [laws_heldIntS_L1] at h
    refine WL_round ?_
    refine W_seq ?_
    refine W_seq ?_
    refine W_region ?_
    refine WO_step 4 [0] [0, 1, 5, 9] (True ∧ (True ∧ True)) ⟨[(0, .one (.e (.sl 0 0 x1.length))), (1, I i54), (5, I i55), (9, B (decide (i55 < ((x1.length : Nat) : Int))))], [.row .int x1 false]⟩ (by kernel_rfl) ⟨trivial, trivial, trivial⟩ ?_
    refine WO_nil rfl ?_
    refine thenS_n ?_
    refine iteO_e h (fun hb69 h => W_true rfl hb69 ?_) (fun hb69 h => W_false rfl hb69 ?_)
    · refine W_sub [0] [0, 1, 5] (st' := ⟨[(0, .one (.e (.sl 0 0 x1.length))), (1, I i54), (5, I i55)], [.row .int x1 false]⟩) (by kernel_rfl) ?_
      refine W_skip ?_
      refine thenS_n ?_
      refine W_seq ?_
      refine W_block ?_
      refine W_seq ?_
      refine W_seq ?_
      refine W_region ?_
      refine guardO_e h (fun hg73 h => ?_)
      refine WO_step 6 [0] [0, 1, 5, 17] ((0 ≤ i55 ∧ i55 < ((x1.length : Nat) : Int)) ∧ (True ∧ (True ∧ True))) ⟨[(0, .one (.e (.sl 0 0 x1.length))), (1, I i54), (5, I i55), (17, B (!decide ((x1.getD i55.toNat 0) = i54)))], [.row .int x1 false]⟩ (by kernel_rfl) ⟨hg73, trivial, trivial, trivial⟩ ?_
      refine WO_nil rfl ?_
      refine thenS_n ?_
      refine iteO_e h (fun hb75 h => W_true rfl hb75 ?_) (fun hb75 h => W_false rfl hb75 ?_)
      · refine W_seq ?_
        refine W_region ?_
        refine WO_step 1 [0] [4] True ⟨[(4, I (-1))], [.row .int x1 false]⟩ (by kernel_rfl) trivial ?_
        refine WO_nil rfl ?_
        refine thenS_n ?_
        refine W_ret ?_
        refine thenS_r ?_
        refine blockS_r ?_
        refine thenS_r ?_
        refine thenS_r ?_
        cases h
        exact And.intro rfl rfl
      · refine W_sub [0] [0, 1, 5] (st' := ⟨[(0, .one (.e (.sl 0 0 x1.length))), (1, I i54), (5, I i55)], [.row .int x1 false]⟩) (by kernel_rfl) ?_
        refine W_skip ?_
        refine thenS_n ?_
        refine W_region ?_
        refine WO_step 3 [0] [0, 1, 5] (True ∧ True) ⟨[(0, .one (.e (.sl 0 0 x1.length))), (1, I (w64 (i54 + 1))), (5, I i55)], [.row .int x1 false]⟩ (by kernel_rfl) ⟨trivial, trivial⟩ ?_
        refine WO_nil rfl ?_
        refine blockS_n ?_
        refine thenS_n ?_
        refine W_region ?_
        refine WO_step 3 [0] [0, 1, 5] (True ∧ True) ⟨[(0, .one (.e (.sl 0 0 x1.length))), (1, I (w64 (i54 + 1))), (5, I (w64 (i55 + 1)))], [.row .int x1 false]⟩ (by kernel_rfl) ⟨trivial, trivial⟩ ?_
        refine WO_nil rfl ?_
        refine thenS_n ?_
        exact ih _ _ h
    · refine W_sub [0] [1] (st' := ⟨[(1, I i54)], [.row .int x1 false]⟩) (by kernel_rfl) ?_
      refine W_exit ?_
      refine thenS_e ?_
      refine thenS_e ?_
      cases h
      exact And.intro rfl rfl

def laws_heldIntS (n : Nat) (x1 : List Int) (i2 : Int) : Option (Int) :=
 bindO (laws_heldIntS_L1 x1 n i2 0) fun v76 =>
 match v76 with
 | (.inl _) => (some (-1))
 | (.inr i66) => (some i66)


theorem laws_heldIntS_ok (n : Nat) (x1 : List Int) (i2 : Int) (i39 : Int) (h : laws_heldIntS n x1 i2 = some i39) : FOk EE 30 [.one (.e (.sl 0 0 x1.length)), I i2] [.row .int x1 false] (I i39) [.row .int x1 false] := by
  unfold laws_heldIntS at h
  refine FOk_of_W 21 1 Try.func30 rfl rfl (Nat.le_of_ble_eq_true rfl) rfl (fun w X θ => ?_)
  refine W_seq ?_
  refine W_region ?_
  refine WO_step 1 [0] [0, 1] True ⟨[(0, .one (.e (.sl 0 0 x1.length))), (1, I i2)], [.row .int x1 false]⟩ (by kernel_rfl) trivial ?_
  refine WO_nil rfl ?_
  refine thenS_n ?_
  refine W_seq ?_
  refine W_seq ?_
  refine W_region ?_
  refine WO_step 1 [0] [0, 1, 5] True ⟨[(0, .one (.e (.sl 0 0 x1.length))), (1, I i2), (5, I 0)], [.row .int x1 false]⟩ (by kernel_rfl) trivial ?_
  refine WO_nil rfl ?_
  refine thenS_n ?_
  refine W_block ?_
  refine W_loop ?_
  refine bindO_e h (fun v76 hv76 h => ?_)
  refine WL_cut (laws_heldIntS_L1_ok w X θ x1 v76 n i2 0 hv76) ?_
  rcases v76 with _ | i66
  · rintro _ _ ⟨rfl, rfl⟩
    refine blockS_r ?_
    refine thenS_r ?_
    cases h
    exact ⟨[0], True, by kernel_rfl, trivial⟩
  · rintro _ _ ⟨rfl, rfl⟩
    refine blockS_y ?_
    refine thenS_n ?_
    refine W_seq ?_
    refine W_region ?_
    refine WO_step 2 [0] [4] True ⟨[(4, I i66)], [.row .int x1 false]⟩ (by kernel_rfl) trivial ?_
    refine WO_nil rfl ?_
    refine thenS_n ?_
    refine W_ret ?_
    cases h
    exact ⟨[0], True, by kernel_rfl, trivial⟩

/- laws.FnExactReadsFrom -/
def laws_FnExactReadsFrom (n : Nat) (x1 : List Acc) (i2 : Int) : Option (Bool) :=
 bindO (laws_szAccessS x1 1048576) fun i66 =>
 iteO (decide (i66 < 0))
 (some true)
 (bindO (laws_toAccessS n x1) fun x70 =>
 bindO (spec_ReadsFrom n x70 i2) fun x72 =>
 bindO (laws_toAccessS n x1) fun x74 =>
 bindO (impl_ReadsFrom n x74 i2) fun x76 =>
 bindO (laws_eqIntS n x76 x72) fun b78 =>
 iteO (!b78)
 (some false)
 (bindO (laws_toAccessS n x1) fun x82 =>
 bindO (laws_eqAccessS n x74 x82) fun b84 =>
 iteO (!b84)
 (some false)
 (bindO (laws_markAccessS n x74 x74.length 1) fun (x88, i89) =>
 guardO (x74.length = x88.length) <|
 bindO (iteO (decide (i89 < 0))
 (some true)
 (bindO (laws_eqIntS n x76 x72) fun b98 =>
 some (!b98))) fun b95 =>
 iteO b95
 (some false)
 (bindO (laws_markIntS n x76 x76.length 1) fun (x102, i103) =>
 guardO (x76.length = x102.length) <|
 bindO (laws_heldIntS n x102 1) fun i106 =>
 iteO (decide (i106 < 0))
 (some false)
 (iteO (!decide (i106 = i103))
 (some false)
 (bindO (laws_toAccessS n x1) fun x112 =>
 bindO (impl_ReadsFrom n x112 i2) fun x114 =>
 bindO (laws_eqIntS n x114 x72) fun b116 =>
 iteO (!b116)
 (some false)
 (bindO (laws_heldIntS n x102 1) fun i120 =>
 iteO (decide (i120 < 0))
 (some false)
 (iteO (!decide (i120 = i103))
 (some false)
 (some true)))))))))

theorem laws_FnExactReadsFrom_ok (n : Nat) (x1 : List Acc) (i2 : Int) (b65 : Bool) (h : laws_FnExactReadsFrom n x1 i2 = some b65) : FOk EE 8 [.one (.e (.sl 0 0 x1.length)), I i2] [.row .acc x1 false] (B b65) [.row .acc x1 false] := by
  unfold laws_FnExactReadsFrom at h
  refine FOk_of_W 74 1 Try.func8 rfl rfl (Nat.le_of_ble_eq_true rfl) rfl (fun w X θ => ?_)
  refine W_seq ?_
  refine W_region ?_
  refine WO_step 1 [0] [0, 1] True ⟨[(0, .one (.e (.sl 0 0 x1.length))), (1, I i2)], [.row .acc x1 false]⟩ (by kernel_rfl) trivial ?_
  refine WO_nil rfl ?_
  refine thenS_n ?_
  refine W_seq ?_
  refine W_region ?_
  refine WO_step 1 [0] [0, 1, 5] True ⟨[(0, .one (.e (.sl 0 0 x1.length))), (1, I i2), (5, I 1048576)], [.row .acc x1 false]⟩ (by kernel_rfl) trivial ?_
  refine WO_nil rfl ?_
  refine thenS_n ?_
  refine W_seq ?_
  refine W_region ?_
  refine WO_step 2 [0] [0, 1, 13, 14] True ⟨[(0, .one (.e (.sl 0 0 x1.length))), (1, I i2), (13, .one (.e (.sl 0 0 x1.length))), (14, I 1048576)], [.row .acc x1 false]⟩ (by kernel_rfl) trivial ?_
  refine bindO_e h (fun i66 hc67 h => ?_)
  refine WO_call [.ro 0] Try.f24 rfl rfl rfl (by kernel_rfl) rfl rfl (by kernel_rfl) (laws_szAccessS_ok x1 1048576 i66 hc67) (And.intro (And.intro rfl rfl) (trivial)) rfl ?_
  refine WO_step 1 [0] [0, 1, 5] True ⟨[(0, .one (.e (.sl 0 0 x1.length))), (1, I i2), (5, I i66)], [.row .acc x1 false]⟩ (by kernel_rfl) trivial ?_
  refine WO_nil rfl ?_
  refine thenS_n ?_
  refine W_seq ?_
  refine W_seq ?_
  refine W_region ?_
  refine WO_step 2 [0] [0, 1, 17] (True ∧ True) ⟨[(0, .one (.e (.sl 0 0 x1.length))), (1, I i2), (17, B (decide (i66 < 0)))], [.row .acc x1 false]⟩ (by kernel_rfl) ⟨trivial, trivial⟩ ?_
  refine WO_nil rfl ?_
  refine thenS_n ?_
  refine iteO_e h (fun hb69 h => W_true rfl hb69 ?_) (fun hb69 h => W_false rfl hb69 ?_)
  · refine W_seq ?_
    refine W_region ?_
    refine WO_step 1 [0] [4] True ⟨[(4, B true)], [.row .acc x1 false]⟩ (by kernel_rfl) trivial ?_
    refine WO_nil rfl ?_
    refine thenS_n ?_
    refine W_ret ?_
    refine thenS_r ?_
    cases h
    exact ⟨[0], True, by kernel_rfl, trivial⟩
  · refine W_sub [0] [0, 1] (st' := ⟨[(0, .one (.e (.sl 0 0 x1.length))), (1, I i2)], [.row .acc x1 false]⟩) (by kernel_rfl) ?_
    refine W_skip ?_
    refine thenS_n ?_
    refine W_seq ?_
    refine W_region ?_
    refine WO_step 1 [0] [0, 1, 18] True ⟨[(0, .one (.e (.sl 0 0 x1.length))), (1, I i2), (18, .one (.e (.sl 0 0 x1.length)))], [.row .acc x1 false]⟩ (by kernel_rfl) trivial ?_
    refine bindO_e h (fun x70 hc71 h => ?_)
    refine WO_call [.ro 0] Try.f25 rfl rfl rfl (by kernel_rfl) rfl rfl (by kernel_rfl) (laws_toAccessS_ok n x1 x70 hc71) (And.intro (And.intro rfl rfl) (trivial)) rfl ?_
    refine WO_step 1 [0, 1] [0, 1, 19, 20] True ⟨[(0, .one (.e (.sl 0 0 x1.length))), (1, I i2), (19, .one (.e (.sl 1 0 x70.length))), (20, I i2)], [.row .acc x1 false, .row .acc x70 true]⟩ (by kernel_rfl) trivial ?_
    refine bindO_e h (fun x72 hc73 h => ?_)
    refine WO_call [.ro 1] Try.f18 rfl rfl rfl (by kernel_rfl) rfl rfl (by kernel_rfl) (spec_ReadsFrom_ok n x70 i2 x72 hc73) (And.intro (And.intro rfl rfl) (trivial)) rfl ?_
    refine WO_step 1 [0, 2] [0, 1, 6] True ⟨[(0, .one (.e (.sl 0 0 x1.length))), (1, I i2), (6, .one (.e (.sl 1 0 x72.length)))], [.row .acc x1 false, .row .int x72 true]⟩ (by kernel_rfl) trivial ?_
    refine WO_nil rfl ?_
    refine thenS_n ?_
    refine W_seq ?_
    refine W_region ?_
    refine WO_step 1 [0, 1] [0, 1, 6, 22] True ⟨[(0, .one (.e (.sl 0 0 x1.length))), (1, I i2), (6, .one (.e (.sl 1 0 x72.length))), (22, .one (.e (.sl 0 0 x1.length)))], [.row .acc x1 false, .row .int x72 true]⟩ (by kernel_rfl) trivial ?_
    refine bindO_e h (fun x74 hc75 h => ?_)
    refine WO_call [.ro 0] Try.f25 rfl rfl rfl (by kernel_rfl) rfl rfl (by kernel_rfl) (laws_toAccessS_ok n x1 x74 hc75) (And.intro (And.intro rfl rfl) (trivial)) rfl ?_
    refine WO_step 1 [0, 1, 2] [0, 1, 6, 7] True ⟨[(0, .one (.e (.sl 0 0 x1.length))), (1, I i2), (6, .one (.e (.sl 1 0 x72.length))), (7, .one (.e (.sl 2 0 x74.length)))], [.row .acc x1 false, .row .int x72 true, .row .acc x74 true]⟩ (by kernel_rfl) trivial ?_
    refine WO_nil rfl ?_
    refine thenS_n ?_
    refine W_seq ?_
    refine W_region ?_
    refine WO_step 2 [0, 1, 2] [0, 1, 6, 7, 24, 25] True ⟨[(0, .one (.e (.sl 0 0 x1.length))), (1, I i2), (6, .one (.e (.sl 1 0 x72.length))), (7, .one (.e (.sl 2 0 x74.length))), (24, .one (.e (.sl 2 0 x74.length))), (25, I i2)], [.row .acc x1 false, .row .int x72 true, .row .acc x74 true]⟩ (by kernel_rfl) trivial ?_
    refine bindO_e h (fun x76 hc77 h => ?_)
    refine WO_call [.ro 2] Try.f16 rfl rfl rfl (by kernel_rfl) rfl rfl (by kernel_rfl) (impl_ReadsFrom_ok n x74 i2 x76 hc77) (And.intro (And.intro rfl rfl) (trivial)) rfl ?_
    refine WO_step 1 [0, 1, 2, 3] [0, 1, 6, 7, 8] True ⟨[(0, .one (.e (.sl 0 0 x1.length))), (1, I i2), (6, .one (.e (.sl 1 0 x72.length))), (7, .one (.e (.sl 2 0 x74.length))), (8, .one (.e (.sl 3 0 x76.length)))], [.row .acc x1 false, .row .int x72 true, .row .acc x74 true, .row .int x76 true]⟩ (by kernel_rfl) trivial ?_
    refine WO_nil rfl ?_
    refine thenS_n ?_
    refine W_seq ?_
    refine W_seq ?_
    refine W_region ?_
    refine WO_step 2 [0, 1, 2, 3] [0, 1, 6, 7, 8, 27, 28] True ⟨[(0, .one (.e (.sl 0 0 x1.length))), (1, I i2), (6, .one (.e (.sl 1 0 x72.length))), (7, .one (.e (.sl 2 0 x74.length))), (8, .one (.e (.sl 3 0 x76.length))), (27, .one (.e (.sl 3 0 x76.length))), (28, .one (.e (.sl 1 0 x72.length)))], [.row .acc x1 false, .row .int x72 true, .row .acc x74 true, .row .int x76 true]⟩ (by kernel_rfl) trivial ?_
    refine bindO_e h (fun b78 hc79 h => ?_)
    refine WO_call [.ro 3, .ro 1] Try.f26 rfl rfl rfl (by kernel_rfl) rfl rfl (by kernel_rfl) (laws_eqIntS_ok n x76 x72 b78 hc79) (And.intro (And.intro rfl rfl) (And.intro (And.intro rfl rfl) (trivial))) rfl ?_
    refine WO_step 1 [0, 1, 2, 3] [0, 1, 6, 7, 8, 30] True ⟨[(0, .one (.e (.sl 0 0 x1.length))), (1, I i2), (6, .one (.e (.sl 1 0 x72.length))), (7, .one (.e (.sl 2 0 x74.length))), (8, .one (.e (.sl 3 0 x76.length))), (30, B (!b78))], [.row .acc x1 false, .row .int x72 true, .row .acc x74 true, .row .int x76 true]⟩ (by kernel_rfl) trivial ?_
    refine WO_nil rfl ?_
    refine thenS_n ?_
    refine iteO_e h (fun hb81 h => W_true rfl hb81 ?_) (fun hb81 h => W_false rfl hb81 ?_)
    · refine W_seq ?_
      refine W_region ?_
      refine WO_step 1 [0] [4] True ⟨[(4, B false)], [.row .acc x1 false]⟩ (by kernel_rfl) trivial ?_
      refine WO_nil rfl ?_
      refine thenS_n ?_
      refine W_ret ?_
      refine thenS_r ?_
      cases h
      exact ⟨[0], True, by kernel_rfl, trivial⟩
    · refine W_sub [0, 1, 2, 3] [0, 1, 6, 7, 8] (st' := ⟨[(0, .one (.e (.sl 0 0 x1.length))), (1, I i2), (6, .one (.e (.sl 1 0 x72.length))), (7, .one (.e (.sl 2 0 x74.length))), (8, .one (.e (.sl 3 0 x76.length)))], [.row .acc x1 false, .row .int x72 true, .row .acc x74 true, .row .int x76 true]⟩) (by kernel_rfl) ?_
      refine W_skip ?_
      refine thenS_n ?_
      refine W_seq ?_
      refine W_seq ?_
      refine W_region ?_
      refine WO_step 2 [0, 1, 2, 3] [0, 1, 6, 7, 8, 31, 32] True ⟨[(0, .one (.e (.sl 0 0 x1.length))), (1, I i2), (6, .one (.e (.sl 1 0 x72.length))), (7, .one (.e (.sl 2 0 x74.length))), (8, .one (.e (.sl 3 0 x76.length))), (31, .one (.e (.sl 2 0 x74.length))), (32, .one (.e (.sl 0 0 x1.length)))], [.row .acc x1 false, .row .int x72 true, .row .acc x74 true, .row .int x76 true]⟩ (by kernel_rfl) trivial ?_
      refine bindO_e h (fun x82 hc83 h => ?_)
      refine WO_call [.ro 0] Try.f25 rfl rfl rfl (by kernel_rfl) rfl rfl (by kernel_rfl) (laws_toAccessS_ok n x1 x82 hc83) (And.intro (And.intro rfl rfl) (trivial)) rfl ?_
      refine WO_sub [0, 1, 2, 3, 4] [0, 1, 6, 7, 8, 31, 33] (st' := ⟨[(0, .one (.e (.sl 0 0 x1.length))), (1, I i2), (6, .one (.e (.sl 1 0 x72.length))), (7, .one (.e (.sl 2 0 x74.length))), (8, .one (.e (.sl 3 0 x76.length))), (31, .one (.e (.sl 2 0 x74.length))), (33, .one (.e (.sl 4 0 x82.length)))], [.row .acc x1 false, .row .int x72 true, .row .acc x74 true, .row .int x76 true, .row .acc x82 true]⟩) (by kernel_rfl) ?_
      refine bindO_e h (fun b84 hc85 h => ?_)
      refine WO_call [.ro 2, .ro 4] Try.f27 rfl rfl rfl (by kernel_rfl) rfl rfl (by kernel_rfl) (laws_eqAccessS_ok n x74 x82 b84 hc85) (And.intro (And.intro rfl rfl) (And.intro (And.intro rfl rfl) (trivial))) rfl ?_
      refine WO_step 1 [0, 1, 2, 3] [0, 1, 6, 7, 8, 35] True ⟨[(0, .one (.e (.sl 0 0 x1.length))), (1, I i2), (6, .one (.e (.sl 1 0 x72.length))), (7, .one (.e (.sl 2 0 x74.length))), (8, .one (.e (.sl 3 0 x76.length))), (35, B (!b84))], [.row .acc x1 false, .row .int x72 true, .row .acc x74 true, .row .int x76 true]⟩ (by kernel_rfl) trivial ?_
      refine WO_nil rfl ?_
      refine thenS_n ?_
      refine iteO_e h (fun hb87 h => W_true rfl hb87 ?_) (fun hb87 h => W_false rfl hb87 ?_)
      · refine W_seq ?_
        refine W_region ?_
        refine WO_step 1 [0] [4] True ⟨[(4, B false)], [.row .acc x1 false]⟩ (by kernel_rfl) trivial ?_
        refine WO_nil rfl ?_
        refine thenS_n ?_
        refine W_ret ?_
        refine thenS_r ?_
        cases h
        exact ⟨[0], True, by kernel_rfl, trivial⟩
      · refine W_sub [0, 1, 2, 3] [0, 1, 6, 7, 8] (st' := ⟨[(0, .one (.e (.sl 0 0 x1.length))), (1, I i2), (6, .one (.e (.sl 1 0 x72.length))), (7, .one (.e (.sl 2 0 x74.length))), (8, .one (.e (.sl 3 0 x76.length)))], [.row .acc x1 false, .row .int x72 true, .row .acc x74 true, .row .int x76 true]⟩) (by kernel_rfl) ?_
        refine W_skip ?_
        refine thenS_n ?_
        refine W_seq ?_
        refine W_region ?_
        refine WO_step 1 [0, 1, 2, 3] [0, 1, 6, 7, 8, 9] True ⟨[(0, .one (.e (.sl 0 0 x1.length))), (1, I i2), (6, .one (.e (.sl 1 0 x72.length))), (7, .one (.e (.sl 2 0 x74.length))), (8, .one (.e (.sl 3 0 x76.length))), (9, I 1)], [.row .acc x1 false, .row .int x72 true, .row .acc x74 true, .row .int x76 true]⟩ (by kernel_rfl) trivial ?_
        refine WO_nil rfl ?_
        refine thenS_n ?_
        refine W_seq ?_
        refine W_region ?_
        refine WO_step 2 [0, 1, 3, 2] [0, 1, 6, 8, 36, 37] True ⟨[(0, .one (.e (.sl 0 0 x1.length))), (1, I i2), (6, .one (.e (.sl 1 0 x72.length))), (8, .one (.e (.sl 2 0 x76.length))), (36, .one (.e (.sl 3 0 x74.length))), (37, I 1)], [.row .acc x1 false, .row .int x72 true, .row .int x76 true, .row .acc x74 true]⟩ (by kernel_rfl) trivial ?_
        refine bindO_e h (fun v127 hc90 h => ?_)
        obtain ⟨x88, i89⟩ := v127
        refine guardO_e h (fun hl91 h => ?_)
        refine WO_call [.own 3] Try.f28 rfl rfl rfl (by kernel_rfl) rfl rfl (by kernel_rfl) (laws_markAccessS_ok n x74 x74.length 1 x88 i89 hc90) (And.intro (And.intro rfl (And.intro rfl hl91)) (trivial)) rfl ?_
        refine WO_sub [0, 1, 2, 3] [0, 1, 6, 8, 36, 37, 38] (st' := ⟨[(0, .one (.e (.sl 0 0 x1.length))), (1, I i2), (6, .one (.e (.sl 1 0 x72.length))), (8, .one (.e (.sl 2 0 x76.length))), (36, .one (.e (.sl 3 0 x74.length))), (37, I 1), (38, I i89)], [.row .acc x1 false, .row .int x72 true, .row .int x76 true, .row .acc x88 true]⟩) (by kernel_rfl) ?_
        refine WO_eq (st' := ⟨[(0, .one (.e (.sl 0 0 x1.length))), (1, I i2), (6, .one (.e (.sl 1 0 x72.length))), (8, .one (.e (.sl 2 0 x76.length))), (36, .one (.e (.sl 3 0 x88.length))), (37, I 1), (38, I i89)], [.row .acc x1 false, .row .int x72 true, .row .int x76 true, .row .acc x88 true]⟩) (by simp only [hl91]) ?_
        refine WO_step 1 [0, 1, 2] [0, 1, 6, 8, 9] True ⟨[(0, .one (.e (.sl 0 0 x1.length))), (1, I i2), (6, .one (.e (.sl 1 0 x72.length))), (8, .one (.e (.sl 2 0 x76.length))), (9, I i89)], [.row .acc x1 false, .row .int x72 true, .row .int x76 true]⟩ (by kernel_rfl) trivial ?_
        refine WO_nil rfl ?_
        refine thenS_n ?_
        refine W_seq ?_
        refine W_seq ?_
        refine W_region ?_
        refine WO_step 3 [0, 1, 2] [0, 1, 6, 8, 41] (True ∧ True) ⟨[(0, .one (.e (.sl 0 0 x1.length))), (1, I i2), (6, .one (.e (.sl 1 0 x72.length))), (8, .one (.e (.sl 2 0 x76.length))), (41, B (decide (i89 < 0)))], [.row .acc x1 false, .row .int x72 true, .row .int x76 true]⟩ (by kernel_rfl) ⟨trivial, trivial⟩ ?_
        refine bindO_e h (fun b95 hv96 h => ?_)
        refine WO_thru ⟨[(0, .one (.e (.sl 0 0 x1.length))), (1, I i2), (6, .one (.e (.sl 1 0 x72.length))), (8, .one (.e (.sl 2 0 x76.length))), (46, B b95)], [.row .acc x1 false, .row .int x72 true, .row .int x76 true]⟩ ?_ ?_
        · refine iteO_e hv96 (fun hb97 hv96 => WO_known 41 true rfl hb97 ?_) (fun hb97 hv96 => WO_known 41 false rfl hb97 ?_)
          · refine WO_step 5 [0, 1, 2] [0, 1, 6, 8, 46] True ⟨[(0, .one (.e (.sl 0 0 x1.length))), (1, I i2), (6, .one (.e (.sl 1 0 x72.length))), (8, .one (.e (.sl 2 0 x76.length))), (46, B true)], [.row .acc x1 false, .row .int x72 true, .row .int x76 true]⟩ (by kernel_rfl) trivial ?_
            cases hv96
            exact WO_nil rfl ⟨rfl, rfl⟩
          · refine WO_step 2 [0, 1, 2] [0, 1, 6, 8, 41, 42, 43] True ⟨[(0, .one (.e (.sl 0 0 x1.length))), (1, I i2), (6, .one (.e (.sl 1 0 x72.length))), (8, .one (.e (.sl 2 0 x76.length))), (41, B false), (42, .one (.e (.sl 2 0 x76.length))), (43, .one (.e (.sl 1 0 x72.length)))], [.row .acc x1 false, .row .int x72 true, .row .int x76 true]⟩ (by kernel_rfl) trivial ?_
            refine bindO_e hv96 (fun b98 hc99 hv96 => ?_)
            refine WO_call [.ro 2, .ro 1] Try.f26 rfl rfl rfl (by kernel_rfl) rfl rfl (by kernel_rfl) (laws_eqIntS_ok n x76 x72 b98 hc99) (And.intro (And.intro rfl rfl) (And.intro (And.intro rfl rfl) (trivial))) rfl ?_
            refine WO_step 2 [0, 1, 2] [0, 1, 6, 8, 46] True ⟨[(0, .one (.e (.sl 0 0 x1.length))), (1, I i2), (6, .one (.e (.sl 1 0 x72.length))), (8, .one (.e (.sl 2 0 x76.length))), (46, B (!b98))], [.row .acc x1 false, .row .int x72 true, .row .int x76 true]⟩ (by kernel_rfl) trivial ?_
            cases hv96
            exact WO_nil rfl ⟨rfl, rfl⟩
        · refine thenS_n ?_
          refine iteO_e h (fun hb101 h => W_true rfl hb101 ?_) (fun hb101 h => W_false rfl hb101 ?_)
          · refine W_seq ?_
            refine W_region ?_
            refine WO_step 1 [0] [4] True ⟨[(4, B false)], [.row .acc x1 false]⟩ (by kernel_rfl) trivial ?_
            refine WO_nil rfl ?_
            refine thenS_n ?_
            refine W_ret ?_
            refine thenS_r ?_
            cases h
            exact ⟨[0], True, by kernel_rfl, trivial⟩
          · refine W_sub [0, 1, 2] [0, 1, 6, 8] (st' := ⟨[(0, .one (.e (.sl 0 0 x1.length))), (1, I i2), (6, .one (.e (.sl 1 0 x72.length))), (8, .one (.e (.sl 2 0 x76.length)))], [.row .acc x1 false, .row .int x72 true, .row .int x76 true]⟩) (by kernel_rfl) ?_
            refine W_skip ?_
            refine thenS_n ?_
            refine W_seq ?_
            refine W_region ?_
            refine WO_step 1 [0, 1, 2] [0, 1, 6, 8, 10] True ⟨[(0, .one (.e (.sl 0 0 x1.length))), (1, I i2), (6, .one (.e (.sl 1 0 x72.length))), (8, .one (.e (.sl 2 0 x76.length))), (10, I 1)], [.row .acc x1 false, .row .int x72 true, .row .int x76 true]⟩ (by kernel_rfl) trivial ?_
            refine WO_nil rfl ?_
            refine thenS_n ?_
            refine W_seq ?_
            refine W_region ?_
            refine WO_step 2 [0, 1, 2] [0, 1, 6, 8, 47, 48] True ⟨[(0, .one (.e (.sl 0 0 x1.length))), (1, I i2), (6, .one (.e (.sl 1 0 x72.length))), (8, .one (.e (.sl 2 0 x76.length))), (47, .one (.e (.sl 2 0 x76.length))), (48, I 1)], [.row .acc x1 false, .row .int x72 true, .row .int x76 true]⟩ (by kernel_rfl) trivial ?_
            refine bindO_e h (fun v126 hc104 h => ?_)
            obtain ⟨x102, i103⟩ := v126
            refine guardO_e h (fun hl105 h => ?_)
            refine WO_call [.own 2] Try.f29 rfl rfl rfl (by kernel_rfl) rfl rfl (by kernel_rfl) (laws_markIntS_ok n x76 x76.length 1 x102 i103 hc104) (And.intro (And.intro rfl (And.intro rfl hl105)) (trivial)) rfl ?_
            refine WO_sub [0, 1, 2] [0, 1, 6, 8, 47, 48, 49] (st' := ⟨[(0, .one (.e (.sl 0 0 x1.length))), (1, I i2), (6, .one (.e (.sl 1 0 x72.length))), (8, .one (.e (.sl 2 0 x76.length))), (47, .one (.e (.sl 2 0 x76.length))), (48, I 1), (49, I i103)], [.row .acc x1 false, .row .int x72 true, .row .int x102 true]⟩) (by kernel_rfl) ?_
            refine WO_eq (st' := ⟨[(0, .one (.e (.sl 0 0 x1.length))), (1, I i2), (6, .one (.e (.sl 1 0 x72.length))), (8, .one (.e (.sl 2 0 x102.length))), (47, .one (.e (.sl 2 0 x102.length))), (48, I 1), (49, I i103)], [.row .acc x1 false, .row .int x72 true, .row .int x102 true]⟩) (by simp only [hl105]) ?_
            refine WO_step 1 [0, 1, 2] [0, 1, 6, 8, 10] True ⟨[(0, .one (.e (.sl 0 0 x1.length))), (1, I i2), (6, .one (.e (.sl 1 0 x72.length))), (8, .one (.e (.sl 2 0 x102.length))), (10, I i103)], [.row .acc x1 false, .row .int x72 true, .row .int x102 true]⟩ (by kernel_rfl) trivial ?_
            refine WO_nil rfl ?_
            refine thenS_n ?_
            refine W_seq ?_
            refine W_region ?_
            refine WO_step 1 [0, 1, 2] [0, 1, 6, 8, 10, 11] True ⟨[(0, .one (.e (.sl 0 0 x1.length))), (1, I i2), (6, .one (.e (.sl 1 0 x72.length))), (8, .one (.e (.sl 2 0 x102.length))), (10, I i103), (11, I 1)], [.row .acc x1 false, .row .int x72 true, .row .int x102 true]⟩ (by kernel_rfl) trivial ?_
            refine WO_nil rfl ?_
            refine thenS_n ?_
            refine W_seq ?_
            refine W_region ?_
            refine WO_step 2 [0, 1, 2] [0, 1, 6, 8, 10, 50, 51] True ⟨[(0, .one (.e (.sl 0 0 x1.length))), (1, I i2), (6, .one (.e (.sl 1 0 x72.length))), (8, .one (.e (.sl 2 0 x102.length))), (10, I i103), (50, .one (.e (.sl 2 0 x102.length))), (51, I 1)], [.row .acc x1 false, .row .int x72 true, .row .int x102 true]⟩ (by kernel_rfl) trivial ?_
            refine bindO_e h (fun i106 hc107 h => ?_)
            refine WO_call [.ro 2] Try.f30 rfl rfl rfl (by kernel_rfl) rfl rfl (by kernel_rfl) (laws_heldIntS_ok n x102 1 i106 hc107) (And.intro (And.intro rfl rfl) (trivial)) rfl ?_
            refine WO_step 1 [0, 1, 2] [0, 1, 6, 8, 10, 11] True ⟨[(0, .one (.e (.sl 0 0 x1.length))), (1, I i2), (6, .one (.e (.sl 1 0 x72.length))), (8, .one (.e (.sl 2 0 x102.length))), (10, I i103), (11, I i106)], [.row .acc x1 false, .row .int x72 true, .row .int x102 true]⟩ (by kernel_rfl) trivial ?_
            refine WO_nil rfl ?_
            refine thenS_n ?_
            refine W_seq ?_
            refine W_seq ?_
            refine W_region ?_
            refine WO_step 2 [0, 1, 2] [0, 1, 6, 8, 10, 11, 54] (True ∧ True) ⟨[(0, .one (.e (.sl 0 0 x1.length))), (1, I i2), (6, .one (.e (.sl 1 0 x72.length))), (8, .one (.e (.sl 2 0 x102.length))), (10, I i103), (11, I i106), (54, B (decide (i106 < 0)))], [.row .acc x1 false, .row .int x72 true, .row .int x102 true]⟩ (by kernel_rfl) ⟨trivial, trivial⟩ ?_
            refine WO_nil rfl ?_
            refine thenS_n ?_
            refine iteO_e h (fun hb109 h => W_true rfl hb109 ?_) (fun hb109 h => W_false rfl hb109 ?_)
            · refine W_seq ?_
              refine W_region ?_
              refine WO_step 1 [0] [4] True ⟨[(4, B false)], [.row .acc x1 false]⟩ (by kernel_rfl) trivial ?_
              refine WO_nil rfl ?_
              refine thenS_n ?_
              refine W_ret ?_
              refine thenS_r ?_
              cases h
              exact ⟨[0], True, by kernel_rfl, trivial⟩
            · refine W_sub [0, 1, 2] [0, 1, 6, 8, 10, 11] (st' := ⟨[(0, .one (.e (.sl 0 0 x1.length))), (1, I i2), (6, .one (.e (.sl 1 0 x72.length))), (8, .one (.e (.sl 2 0 x102.length))), (10, I i103), (11, I i106)], [.row .acc x1 false, .row .int x72 true, .row .int x102 true]⟩) (by kernel_rfl) ?_
              refine W_skip ?_
              refine thenS_n ?_
              refine W_seq ?_
              refine W_seq ?_
              refine W_region ?_
              refine WO_step 3 [0, 1, 2] [0, 1, 6, 8, 10, 57] (True ∧ True) ⟨[(0, .one (.e (.sl 0 0 x1.length))), (1, I i2), (6, .one (.e (.sl 1 0 x72.length))), (8, .one (.e (.sl 2 0 x102.length))), (10, I i103), (57, B (!decide (i106 = i103)))], [.row .acc x1 false, .row .int x72 true, .row .int x102 true]⟩ (by kernel_rfl) ⟨trivial, trivial⟩ ?_
              refine WO_nil rfl ?_
              refine thenS_n ?_
              refine iteO_e h (fun hb111 h => W_true rfl hb111 ?_) (fun hb111 h => W_false rfl hb111 ?_)
              · refine W_seq ?_
                refine W_region ?_
                refine WO_step 1 [0] [4] True ⟨[(4, B false)], [.row .acc x1 false]⟩ (by kernel_rfl) trivial ?_
                refine WO_nil rfl ?_
                refine thenS_n ?_
                refine W_ret ?_
                refine thenS_r ?_
                cases h
                exact ⟨[0], True, by kernel_rfl, trivial⟩
              · refine W_sub [0, 1, 2] [0, 1, 6, 8, 10] (st' := ⟨[(0, .one (.e (.sl 0 0 x1.length))), (1, I i2), (6, .one (.e (.sl 1 0 x72.length))), (8, .one (.e (.sl 2 0 x102.length))), (10, I i103)], [.row .acc x1 false, .row .int x72 true, .row .int x102 true]⟩) (by kernel_rfl) ?_
                refine W_skip ?_
                refine thenS_n ?_
                refine W_seq ?_
                refine W_region ?_
                refine WO_step 1 [0, 1, 2] [1, 6, 8, 10, 58] True ⟨[(1, I i2), (6, .one (.e (.sl 1 0 x72.length))), (8, .one (.e (.sl 2 0 x102.length))), (10, I i103), (58, .one (.e (.sl 0 0 x1.length)))], [.row .acc x1 false, .row .int x72 true, .row .int x102 true]⟩ (by kernel_rfl) trivial ?_
                refine bindO_e h (fun x112 hc113 h => ?_)
                refine WO_call [.ro 0] Try.f25 rfl rfl rfl (by kernel_rfl) rfl rfl (by kernel_rfl) (laws_toAccessS_ok n x1 x112 hc113) (And.intro (And.intro rfl rfl) (trivial)) rfl ?_
                refine WO_step 1 [0, 1, 2, 3] [6, 8, 10, 59, 60] True ⟨[(6, .one (.e (.sl 1 0 x72.length))), (8, .one (.e (.sl 2 0 x102.length))), (10, I i103), (59, .one (.e (.sl 3 0 x112.length))), (60, I i2)], [.row .acc x1 false, .row .int x72 true, .row .int x102 true, .row .acc x112 true]⟩ (by kernel_rfl) trivial ?_
                refine bindO_e h (fun x114 hc115 h => ?_)
                refine WO_call [.ro 3] Try.f16 rfl rfl rfl (by kernel_rfl) rfl rfl (by kernel_rfl) (impl_ReadsFrom_ok n x112 i2 x114 hc115) (And.intro (And.intro rfl rfl) (trivial)) rfl ?_
                refine WO_step 1 [0, 1, 2, 4] [6, 8, 10, 12] True ⟨[(6, .one (.e (.sl 1 0 x72.length))), (8, .one (.e (.sl 2 0 x102.length))), (10, I i103), (12, .one (.e (.sl 3 0 x114.length)))], [.row .acc x1 false, .row .int x72 true, .row .int x102 true, .row .int x114 true]⟩ (by kernel_rfl) trivial ?_
                refine WO_nil rfl ?_
                refine thenS_n ?_
                refine W_seq ?_
                refine W_seq ?_
                refine W_region ?_
                refine WO_step 2 [0, 2, 3, 1] [8, 10, 62, 63] True ⟨[(8, .one (.e (.sl 1 0 x102.length))), (10, I i103), (62, .one (.e (.sl 2 0 x114.length))), (63, .one (.e (.sl 3 0 x72.length)))], [.row .acc x1 false, .row .int x102 true, .row .int x114 true, .row .int x72 true]⟩ (by kernel_rfl) trivial ?_
                refine bindO_e h (fun b116 hc117 h => ?_)
                refine WO_call [.ro 2, .ro 3] Try.f26 rfl rfl rfl (by kernel_rfl) rfl rfl (by kernel_rfl) (laws_eqIntS_ok n x114 x72 b116 hc117) (And.intro (And.intro rfl rfl) (And.intro (And.intro rfl rfl) (trivial))) rfl ?_
                refine WO_step 1 [0, 1] [8, 10, 65] True ⟨[(8, .one (.e (.sl 1 0 x102.length))), (10, I i103), (65, B (!b116))], [.row .acc x1 false, .row .int x102 true]⟩ (by kernel_rfl) trivial ?_
                refine WO_nil rfl ?_
                refine thenS_n ?_
                refine iteO_e h (fun hb119 h => W_true rfl hb119 ?_) (fun hb119 h => W_false rfl hb119 ?_)
                · refine W_seq ?_
                  refine W_region ?_
                  refine WO_step 1 [0] [4] True ⟨[(4, B false)], [.row .acc x1 false]⟩ (by kernel_rfl) trivial ?_
                  refine WO_nil rfl ?_
                  refine thenS_n ?_
                  refine W_ret ?_
                  refine thenS_r ?_
                  cases h
                  exact ⟨[0], True, by kernel_rfl, trivial⟩
                · refine W_sub [0, 1] [8, 10] (st' := ⟨[(8, .one (.e (.sl 1 0 x102.length))), (10, I i103)], [.row .acc x1 false, .row .int x102 true]⟩) (by kernel_rfl) ?_
                  refine W_skip ?_
                  refine thenS_n ?_
                  refine W_seq ?_
                  refine W_region ?_
                  refine WO_step 1 [0, 1] [8, 10, 11] True ⟨[(8, .one (.e (.sl 1 0 x102.length))), (10, I i103), (11, I 1)], [.row .acc x1 false, .row .int x102 true]⟩ (by kernel_rfl) trivial ?_
                  refine WO_nil rfl ?_
                  refine thenS_n ?_
                  refine W_seq ?_
                  refine W_region ?_
                  refine WO_step 2 [0, 1] [10, 66, 67] True ⟨[(10, I i103), (66, .one (.e (.sl 1 0 x102.length))), (67, I 1)], [.row .acc x1 false, .row .int x102 true]⟩ (by kernel_rfl) trivial ?_
                  refine bindO_e h (fun i120 hc121 h => ?_)
                  refine WO_call [.ro 1] Try.f30 rfl rfl rfl (by kernel_rfl) rfl rfl (by kernel_rfl) (laws_heldIntS_ok n x102 1 i120 hc121) (And.intro (And.intro rfl rfl) (trivial)) rfl ?_
                  refine WO_step 1 [0] [10, 11] True ⟨[(10, I i103), (11, I i120)], [.row .acc x1 false]⟩ (by kernel_rfl) trivial ?_
                  refine WO_nil rfl ?_
                  refine thenS_n ?_
                  refine W_seq ?_
                  refine W_seq ?_
                  refine W_region ?_
                  refine WO_step 2 [0] [10, 11, 70] (True ∧ True) ⟨[(10, I i103), (11, I i120), (70, B (decide (i120 < 0)))], [.row .acc x1 false]⟩ (by kernel_rfl) ⟨trivial, trivial⟩ ?_
                  refine WO_nil rfl ?_
                  refine thenS_n ?_
                  refine iteO_e h (fun hb123 h => W_true rfl hb123 ?_) (fun hb123 h => W_false rfl hb123 ?_)
                  · refine W_seq ?_
                    refine W_region ?_
                    refine WO_step 1 [0] [4] True ⟨[(4, B false)], [.row .acc x1 false]⟩ (by kernel_rfl) trivial ?_
                    refine WO_nil rfl ?_
                    refine thenS_n ?_
                    refine W_ret ?_
                    refine thenS_r ?_
                    cases h
                    exact ⟨[0], True, by kernel_rfl, trivial⟩
                  · refine W_sub [0] [10, 11] (st' := ⟨[(10, I i103), (11, I i120)], [.row .acc x1 false]⟩) (by kernel_rfl) ?_
                    refine W_skip ?_
                    refine thenS_n ?_
                    refine W_seq ?_
                    refine W_seq ?_
                    refine W_region ?_
                    refine WO_step 3 [0] [73] (True ∧ True) ⟨[(73, B (!decide (i120 = i103)))], [.row .acc x1 false]⟩ (by kernel_rfl) ⟨trivial, trivial⟩ ?_
                    refine WO_nil rfl ?_
                    refine thenS_n ?_
                    refine iteO_e h (fun hb125 h => W_true rfl hb125 ?_) (fun hb125 h => W_false rfl hb125 ?_)
                    · refine W_seq ?_
                      refine W_region ?_
                      refine WO_step 1 [0] [4] True ⟨[(4, B false)], [.row .acc x1 false]⟩ (by kernel_rfl) trivial ?_
                      refine WO_nil rfl ?_
                      refine thenS_n ?_
                      refine W_ret ?_
                      refine thenS_r ?_
                      cases h
                      exact ⟨[0], True, by kernel_rfl, trivial⟩
                    · refine W_sub [0] [] (st' := ⟨[], [.row .acc x1 false]⟩) (by kernel_rfl) ?_
                      refine W_skip ?_
                      refine thenS_n ?_
                      refine W_seq ?_
                      refine W_region ?_
                      refine WO_step 1 [0] [4] True ⟨[(4, B true)], [.row .acc x1 false]⟩ (by kernel_rfl) trivial ?_
                      refine WO_nil rfl ?_
                      refine thenS_n ?_
                      refine W_ret ?_
                      cases h
                      exact ⟨[0], True, by kernel_rfl, trivial⟩

/- spec.DrawAbortSet -/
def spec_DrawAbortSet (n : Nat) (x1 : List Int) : Option ((List Acc) × Int) :=
 bindO (spec_DrawReadsFrom n x1) fun (x8, i9) =>
 some (x8, i9)

theorem spec_DrawAbortSet_ok (n : Nat) (x1 : List Int) (x6 : List Acc) (i7 : Int) (h : spec_DrawAbortSet n x1 = some (x6, i7)) : FOk EE 31 [.one (.e (.sl 0 0 x1.length))] [.row .u8 x1 false] (.tup [.e (.sl 1 0 x6.length), .e (cI i7)]) [.row .u8 x1 false, .row .acc x6 true] := by
  unfold spec_DrawAbortSet at h
  refine FOk_of_W 8 1 Try.func31 rfl rfl (Nat.le_of_ble_eq_true rfl) rfl (fun w X θ => ?_)
  refine W_seq ?_
  refine W_region ?_
  refine WO_step 2 [0] [0] True ⟨[(0, .one (.e (.sl 0 0 x1.length)))], [.row .u8 x1 false]⟩ (by kernel_rfl) trivial ?_
  refine WO_nil rfl ?_
  refine thenS_n ?_
  refine W_seq ?_
  refine W_region ?_
  refine WO_step 1 [0] [4] True ⟨[(4, .one (.e (.sl 0 0 x1.length)))], [.row .u8 x1 false]⟩ (by kernel_rfl) trivial ?_
  refine bindO_e h (fun v11 hc10 h => ?_)
  obtain ⟨x8, i9⟩ := v11
  refine WO_call [.ro 0] Try.f15 rfl rfl rfl (by kernel_rfl) rfl rfl (by kernel_rfl) (spec_DrawReadsFrom_ok n x1 x8 i9 hc10) (And.intro (And.intro rfl rfl) (trivial)) rfl ?_
  refine WO_step 4 [0, 1] [2, 3] True ⟨[(2, .one (.e (.sl 1 0 x8.length))), (3, I i9)], [.row .u8 x1 false, .row .acc x8 true]⟩ (by kernel_rfl) trivial ?_
  refine WO_nil rfl ?_
  refine thenS_n ?_
  refine W_ret ?_
  cases h
  exact ⟨[0, 1], True, by kernel_rfl, trivial⟩

/- impl.AbortSet -/
def impl_AbortSet_L1 (x1 : List Acc) (i2 : Int) : Nat → (List Bool) → Int → Option ((List Bool))
| 0, _, _ => none
| n + 1, x1990, i1991 =>
 iteO (decide (i1991 < 4))
 (bindO (impl_sourcesOf n x1 i1991) fun x2012 =>
 guardO (0 ≤ i1991 ∧ i1991 < (4 : Int) ∧ (i1991.toNat * 4) < x1990.length) <|
 guardO (x2012.length = 4 ∧ (i1991.toNat * 4) + x2012.length ≤ x1990.length) <|
 impl_AbortSet_L1 x1 i2 n (splice x1990 (i1991.toNat * 4) x2012) (w64 (i1991 + 1)))
 (some x1990)

theorem impl_AbortSet_L1_ok (w : World) (X : Nat → Prop) (θ : List Loc) (x1 : List Acc) (i2 : Int) (x2004 : (List Bool)) : ∀ (n : Nat) (x1990 : List Bool) (i1991 : Int), impl_AbortSet_L1 x1 i2 n x1990 i1991 = some x2004 → WL EE ⟨w, X, θ, 54, 1⟩ (subC [1, 1, 1, 0, 1, 4, 4] (bodyC Try.f32)) (fun (e : Exit) (s : St) => e = .exit 0 ∧ s = ⟨[(1, I i2), (5, .one (.e (.rp 1 0 0)))], [.row .acc x1 false, .row .bool x2004 true]⟩) ⟨[(0, .one (.e (.sl 0 0 x1.length))), (1, I i2), (5, .one (.e (.rp 1 0 0))), (18, I i1991)], [.row .acc x1 false, .row .bool x1990 true]⟩ := by
  intro n
  induction n with
  | zero => intro _ _ h; exact none_e h
  | succ n ih =>
    intro x1990 i1991 h
    rw [impl_AbortSet_L1] at h
    refine WL_round ?_
    refine W_seq ?_
    refine W_region ?_
    refine WO_step 1 [0, 1] [0, 1, 5, 18, 19] (True ∧ True) ⟨[(0, .one (.e (.sl 0 0 x1.length))), (1, I i2), (5, .one (.e (.rp 1 0 0))), (18, I i1991), (19, B (decide (i1991 < 4)))], [.row .acc x1 false, .row .bool x1990 true]⟩ (by kernel_rfl) ⟨trivial, trivial⟩ ?_
    refine WO_nil rfl ?_
    refine thenS_n ?_
    refine W_seq ?_
    refine iteO_e h (fun hb2007 h => W_true rfl hb2007 ?_) (fun hb2007 h => W_false rfl hb2007 ?_)
    · refine W_sub [0, 1] [0, 1, 5, 18] (st' := ⟨[(0, .one (.e (.sl 0 0 x1.length))), (1, I i2), (5, .one (.e (.rp 1 0 0))), (18, I i1991)], [.row .acc x1 false, .row .bool x1990 true]⟩) (by kernel_rfl) ?_
      refine W_skip ?_
      refine thenS_n ?_
      refine W_seq ?_
      refine W_block ?_
      refine W_seq ?_
      refine W_region ?_
      refine WO_step 2 [0, 1] [0, 1, 5, 6, 18] True ⟨[(0, .one (.e (.sl 0 0 x1.length))), (1, I i2), (5, .one (.e (.rp 1 0 0))), (6, I i1991), (18, I i1991)], [.row .acc x1 false, .row .bool x1990 true]⟩ (by kernel_rfl) trivial ?_
      refine WO_nil rfl ?_
      refine thenS_n ?_
      refine W_region ?_
      refine WO_step 3 [0, 1] [0, 1, 5, 18, 21, 22, 23] True ⟨[(0, .one (.e (.sl 0 0 x1.length))), (1, I i2), (5, .one (.e (.rp 1 0 0))), (18, I i1991), (21, I i1991), (22, .one (.e (.sl 0 0 x1.length))), (23, I i1991)], [.row .acc x1 false, .row .bool x1990 true]⟩ (by kernel_rfl) trivial ?_
      refine bindO_e h (fun x2012 hc2013 h => ?_)
      refine WO_call [.ro 0] Try.f39 rfl rfl rfl (by kernel_rfl) rfl rfl (by kernel_rfl) (impl_sourcesOf_ok n x1 i1991 x2012 hc2013) (And.intro (And.intro rfl rfl) (trivial)) rfl ?_
      refine guardO_e h (fun hg2014 h => ?_)
      refine guardO_e h (fun hg2015 h => ?_)
      refine WO_step 2 [0, 1] [0, 1, 5, 18] ((0 ≤ i1991 ∧ i1991 < (4 : Int) ∧ (i1991.toNat * 4) < x1990.length) ∧ ((x2012.length = 4 ∧ (i1991.toNat * 4) + x2012.length ≤ x1990.length) ∧ True)) ⟨[(0, .one (.e (.sl 0 0 x1.length))), (1, I i2), (5, .one (.e (.rp 1 0 0))), (18, I i1991)], [.row .acc x1 false, .row .bool (splice x1990 (i1991.toNat * 4) x2012) true]⟩ (by kernel_rfl) ⟨hg2014, hg2015, trivial⟩ ?_
      refine WO_nil rfl ?_
      refine blockS_n ?_
      refine thenS_n ?_
      refine W_region ?_
      refine WO_step 2 [0, 1] [0, 1, 5, 18] (True ∧ True) ⟨[(0, .one (.e (.sl 0 0 x1.length))), (1, I i2), (5, .one (.e (.rp 1 0 0))), (18, I (w64 (i1991 + 1)))], [.row .acc x1 false, .row .bool (splice x1990 (i1991.toNat * 4) x2012) true]⟩ (by kernel_rfl) ⟨trivial, trivial⟩ ?_
      refine WO_nil rfl ?_
      refine thenS_n ?_
      exact ih _ _ h
    · refine W_sub [0, 1] [1, 5] (st' := ⟨[(1, I i2), (5, .one (.e (.rp 1 0 0)))], [.row .acc x1 false, .row .bool x1990 true]⟩) (by kernel_rfl) ?_
      refine W_exit ?_
      refine thenS_e ?_
      refine thenS_e ?_
      cases h
      exact And.intro rfl rfl

def impl_AbortSet_L4 (i3621 : Int) (i2603 : Int) (x1 : List Acc) (x2004 : List Bool) : Nat → (List Bool) → Int → Option ((List Bool))
| 0, _, _ => none
| n + 1, x3868, i3869 =>
 iteO (decide (i3869 < 4))
 (guardO (0 ≤ i3869 ∧ i3869 < (4 : Int) ∧ (i3869.toNat * 1) < x3868.length) <|
 bindO (iteO (x3868.getD (i3869.toNat * 1) false)
 (guardO (0 ≤ i3621 ∧ i3621 < (4 : Int) ∧ (i3621.toNat * 4) < x2004.length) <|
 guardO (0 ≤ i3869 ∧ i3869 < (4 : Int) ∧ (addN (i3621.toNat * 4) (i3869.toNat * 1)) < x2004.length) <|
 some (x2004.getD (addN (i3621.toNat * 4) (i3869.toNat * 1)) false))
 (some false)) fun b3921 =>
 bindO (iteO b3921
 (guardO (0 ≤ i3621 ∧ i3621 < (4 : Int) ∧ (i3621.toNat * 1) < x3868.length) <|
 some (x3868.set (i3621.toNat * 1) true))
 (some x3868)) fun x3928 =>
 impl_AbortSet_L4 i3621 i2603 x1 x2004 n x3928 (w64 (i3869 + 1)))
 (some x3868)

theorem impl_AbortSet_L4_ok (w : World) (X : Nat → Prop) (θ : List Loc) (i3621 : Int) (i2603 : Int) (x1 : List Acc) (x2004 : List Bool) (x3900 : (List Bool)) : ∀ (n : Nat) (x3868 : List Bool) (i3869 : Int), impl_AbortSet_L4 i3621 i2603 x1 x2004 n x3868 i3869 = some x3900 → WL EE ⟨w, X, θ, 54, 1⟩ (subC [1, 1, 1, 1, 1, 1, 0, 1, 4, 4, 1, 1, 0, 4, 1, 4, 4, 1, 1, 0, 4, 1, 1, 4, 4] (bodyC Try.f32)) (fun (e : Exit) (s : St) => e = .exit 6 ∧ s = ⟨[(5, .one (.e (.rp 1 0 0))), (7, .one (.e (.rp 2 0 0))), (29, I i2603), (31, I i3621)], [.row .acc x1 false, .row .bool x2004 true, .row .bool x3900 true]⟩) ⟨[(5, .one (.e (.rp 1 0 0))), (7, .one (.e (.rp 2 0 0))), (8, I i3621), (29, I i2603), (31, I i3621), (34, I i3869)], [.row .acc x1 false, .row .bool x2004 true, .row .bool x3868 true]⟩ := by
  intro n
  induction n with
  | zero => intro _ _ h; exact none_e h
  | succ n ih =>
    intro x3868 i3869 h
    rw [impl_AbortSet_L4] at h
    refine WL_round ?_
    refine W_seq ?_
    refine W_region ?_
    refine WO_step 1 [0, 1, 2] [5, 7, 8, 29, 31, 34, 35] (True ∧ True) ⟨[(5, .one (.e (.rp 1 0 0))), (7, .one (.e (.rp 2 0 0))), (8, I i3621), (29, I i2603), (31, I i3621), (34, I i3869), (35, B (decide (i3869 < 4)))], [.row .acc x1 false, .row .bool x2004 true, .row .bool x3868 true]⟩ (by kernel_rfl) ⟨trivial, trivial⟩ ?_
    refine WO_nil rfl ?_
    refine thenS_n ?_
    refine W_seq ?_
    refine iteO_e h (fun hb3903 h => W_true rfl hb3903 ?_) (fun hb3903 h => W_false rfl hb3903 ?_)
    · refine W_sub [0, 1, 2] [5, 7, 8, 29, 31, 34] (st' := ⟨[(5, .one (.e (.rp 1 0 0))), (7, .one (.e (.rp 2 0 0))), (8, I i3621), (29, I i2603), (31, I i3621), (34, I i3869)], [.row .acc x1 false, .row .bool x2004 true, .row .bool x3868 true]⟩) (by kernel_rfl) ?_
      refine W_skip ?_
      refine thenS_n ?_
      refine W_seq ?_
      refine W_block ?_
      refine W_seq ?_
      refine W_region ?_
      refine WO_step 2 [0, 1, 2] [5, 7, 8, 9, 29, 31, 34] True ⟨[(5, .one (.e (.rp 1 0 0))), (7, .one (.e (.rp 2 0 0))), (8, I i3621), (9, I i3869), (29, I i2603), (31, I i3621), (34, I i3869)], [.row .acc x1 false, .row .bool x2004 true, .row .bool x3868 true]⟩ (by kernel_rfl) trivial ?_
      refine WO_nil rfl ?_
      refine thenS_n ?_
      refine W_seq ?_
      refine W_region ?_
      refine guardO_e h (fun hg3917 h => ?_)
      refine WO_step 4 [0, 1, 2] [5, 7, 8, 9, 29, 31, 34, 40] ((0 ≤ i3869 ∧ i3869 < (4 : Int) ∧ (i3869.toNat * 1) < x3868.length) ∧ (True ∧ True)) ⟨[(5, .one (.e (.rp 1 0 0))), (7, .one (.e (.rp 2 0 0))), (8, I i3621), (9, I i3869), (29, I i2603), (31, I i3621), (34, I i3869), (40, B (x3868.getD (i3869.toNat * 1) false))], [.row .acc x1 false, .row .bool x2004 true, .row .bool x3868 true]⟩ (by kernel_rfl) ⟨hg3917, trivial, trivial⟩ ?_
      refine bindO_e h (fun b3921 hv3922 h => ?_)
      refine WO_thru ⟨[(5, .one (.e (.rp 1 0 0))), (7, .one (.e (.rp 2 0 0))), (8, I i3621), (29, I i2603), (31, I i3621), (34, I i3869), (46, B b3921)], [.row .acc x1 false, .row .bool x2004 true, .row .bool x3868 true]⟩ ?_ ?_
      · refine iteO_e hv3922 (fun hb3923 hv3922 => WO_known 40 true rfl hb3923 ?_) (fun hb3923 hv3922 => WO_known 40 false rfl hb3923 ?_)
        · refine guardO_e hv3922 (fun hg3924 hv3922 => ?_)
          refine guardO_e hv3922 (fun hg3925 hv3922 => ?_)
          refine WO_step 6 [0, 1, 2] [5, 7, 8, 29, 31, 34, 46] ((0 ≤ i3621 ∧ i3621 < (4 : Int) ∧ (i3621.toNat * 4) < x2004.length) ∧ ((0 ≤ i3869 ∧ i3869 < (4 : Int) ∧ (addN (i3621.toNat * 4) (i3869.toNat * 1)) < x2004.length) ∧ (True ∧ True))) ⟨[(5, .one (.e (.rp 1 0 0))), (7, .one (.e (.rp 2 0 0))), (8, I i3621), (29, I i2603), (31, I i3621), (34, I i3869), (46, B (x2004.getD (addN (i3621.toNat * 4) (i3869.toNat * 1)) false))], [.row .acc x1 false, .row .bool x2004 true, .row .bool x3868 true]⟩ (by kernel_rfl) ⟨hg3924, hg3925, trivial, trivial⟩ ?_
          cases hv3922
          exact WO_nil rfl ⟨rfl, rfl⟩
        · refine WO_step 6 [0, 1, 2] [5, 7, 8, 29, 31, 34, 46] True ⟨[(5, .one (.e (.rp 1 0 0))), (7, .one (.e (.rp 2 0 0))), (8, I i3621), (29, I i2603), (31, I i3621), (34, I i3869), (46, B false)], [.row .acc x1 false, .row .bool x2004 true, .row .bool x3868 true]⟩ (by kernel_rfl) trivial ?_
          cases hv3922
          exact WO_nil rfl ⟨rfl, rfl⟩
      · refine thenS_n ?_
        refine bindO_e h (fun x3928 hx3928 h => ?_)
        refine W_cut (Q' := fun (e : Exit) (s : St) => e = .normal ∧ s = ⟨[(5, .one (.e (.rp 1 0 0))), (7, .one (.e (.rp 2 0 0))), (8, I i3621), (29, I i2603), (31, I i3621), (34, I i3869)], [.row .acc x1 false, .row .bool x2004 true, .row .bool x3928 true]⟩) ?_ ?_
        · refine iteO_e hx3928 (fun hb3930 hx3928 => W_true rfl hb3930 ?_) (fun hb3930 hx3928 => W_false rfl hb3930 ?_)
          · refine W_region ?_
            refine guardO_e hx3928 (fun hg3931 hx3928 => ?_)
            refine WO_step 3 [0, 1, 2] [5, 7, 8, 29, 31, 34] ((0 ≤ i3621 ∧ i3621 < (4 : Int) ∧ (i3621.toNat * 1) < x3868.length) ∧ (True ∧ True)) ⟨[(5, .one (.e (.rp 1 0 0))), (7, .one (.e (.rp 2 0 0))), (8, I i3621), (29, I i2603), (31, I i3621), (34, I i3869)], [.row .acc x1 false, .row .bool x2004 true, .row .bool (x3868.set (i3621.toNat * 1) true) true]⟩ (by kernel_rfl) ⟨hg3931, trivial, trivial⟩ ?_
            refine WO_nil rfl ?_
            cases hx3928
            exact And.intro rfl rfl
          · refine W_sub [0, 1, 2] [5, 7, 8, 29, 31, 34] (st' := ⟨[(5, .one (.e (.rp 1 0 0))), (7, .one (.e (.rp 2 0 0))), (8, I i3621), (29, I i2603), (31, I i3621), (34, I i3869)], [.row .acc x1 false, .row .bool x2004 true, .row .bool x3868 true]⟩) (by kernel_rfl) ?_
            refine W_skip ?_
            cases hx3928
            exact And.intro rfl rfl
        · rintro _ _ ⟨rfl, rfl⟩
          refine blockS_n ?_
          refine thenS_n ?_
          refine W_region ?_
          refine WO_step 2 [0, 1, 2] [5, 7, 8, 29, 31, 34] (True ∧ True) ⟨[(5, .one (.e (.rp 1 0 0))), (7, .one (.e (.rp 2 0 0))), (8, I i3621), (29, I i2603), (31, I i3621), (34, I (w64 (i3869 + 1)))], [.row .acc x1 false, .row .bool x2004 true, .row .bool x3928 true]⟩ (by kernel_rfl) ⟨trivial, trivial⟩ ?_
          refine WO_nil rfl ?_
          refine thenS_n ?_
          exact ih _ _ h
    · refine W_sub [0, 1, 2] [5, 7, 29, 31] (st' := ⟨[(5, .one (.e (.rp 1 0 0))), (7, .one (.e (.rp 2 0 0))), (29, I i2603), (31, I i3621)], [.row .acc x1 false, .row .bool x2004 true, .row .bool x3868 true]⟩) (by kernel_rfl) ?_
      refine W_exit ?_
      refine thenS_e ?_
      refine thenS_e ?_
      cases h
      exact And.intro rfl rfl

def impl_AbortSet_L3 (i2603 : Int) (x1 : List Acc) (x2004 : List Bool) : Nat → (List Bool) → Int → Option ((List Bool))
| 0, _, _ => none
| n + 1, x3620, i3621 =>
 iteO (decide (i3621 < 4))
 (bindO (impl_AbortSet_L4 i3621 i2603 x1 x2004 n x3620 0) fun x3900 =>
 impl_AbortSet_L3 i2603 x1 x2004 n x3900 (w64 (i3621 + 1)))
 (some x3620)

theorem impl_AbortSet_L3_ok (w : World) (X : Nat → Prop) (θ : List Loc) (i2603 : Int) (x1 : List Acc) (x2004 : List Bool) (x3762 : (List Bool)) : ∀ (n : Nat) (x3620 : List Bool) (i3621 : Int), impl_AbortSet_L3 i2603 x1 x2004 n x3620 i3621 = some x3762 → WL EE ⟨w, X, θ, 54, 1⟩ (subC [1, 1, 1, 1, 1, 1, 0, 1, 4, 4, 1, 1, 0, 4, 1, 4, 4] (bodyC Try.f32)) (fun (e : Exit) (s : St) => e = .exit 4 ∧ s = ⟨[(5, .one (.e (.rp 1 0 0))), (7, .one (.e (.rp 2 0 0))), (29, I i2603)], [.row .acc x1 false, .row .bool x2004 true, .row .bool x3762 true]⟩) ⟨[(5, .one (.e (.rp 1 0 0))), (7, .one (.e (.rp 2 0 0))), (29, I i2603), (31, I i3621)], [.row .acc x1 false, .row .bool x2004 true, .row .bool x3620 true]⟩ := by
  intro n
  induction n with
  | zero => intro _ _ h; exact none_e h
  | succ n ih =>
    intro x3620 i3621 h
    rw [impl_AbortSet_L3] at h
    refine WL_round ?_
    refine W_seq ?_
    refine W_region ?_
    refine WO_step 1 [0, 1, 2] [5, 7, 29, 31, 32] (True ∧ True) ⟨[(5, .one (.e (.rp 1 0 0))), (7, .one (.e (.rp 2 0 0))), (29, I i2603), (31, I i3621), (32, B (decide (i3621 < 4)))], [.row .acc x1 false, .row .bool x2004 true, .row .bool x3620 true]⟩ (by kernel_rfl) ⟨trivial, trivial⟩ ?_
    refine WO_nil rfl ?_
    refine thenS_n ?_
    refine W_seq ?_
    refine iteO_e h (fun hb3765 h => W_true rfl hb3765 ?_) (fun hb3765 h => W_false rfl hb3765 ?_)
    · refine W_sub [0, 1, 2] [5, 7, 29, 31] (st' := ⟨[(5, .one (.e (.rp 1 0 0))), (7, .one (.e (.rp 2 0 0))), (29, I i2603), (31, I i3621)], [.row .acc x1 false, .row .bool x2004 true, .row .bool x3620 true]⟩) (by kernel_rfl) ?_
      refine W_skip ?_
      refine thenS_n ?_
      refine W_seq ?_
      refine W_block ?_
      refine W_seq ?_
      refine W_region ?_
      refine WO_step 2 [0, 1, 2] [5, 7, 8, 29, 31] True ⟨[(5, .one (.e (.rp 1 0 0))), (7, .one (.e (.rp 2 0 0))), (8, I i3621), (29, I i2603), (31, I i3621)], [.row .acc x1 false, .row .bool x2004 true, .row .bool x3620 true]⟩ (by kernel_rfl) trivial ?_
      refine WO_nil rfl ?_
      refine thenS_n ?_
      refine W_seq ?_
      refine W_region ?_
      refine WO_step 1 [0, 1, 2] [5, 7, 8, 29, 31, 34] True ⟨[(5, .one (.e (.rp 1 0 0))), (7, .one (.e (.rp 2 0 0))), (8, I i3621), (29, I i2603), (31, I i3621), (34, I 0)], [.row .acc x1 false, .row .bool x2004 true, .row .bool x3620 true]⟩ (by kernel_rfl) trivial ?_
      refine WO_nil rfl ?_
      refine thenS_n ?_
      refine W_block ?_
      refine W_loop ?_
      refine bindO_e h (fun x3900 hx3900 h => ?_)
      refine WL_cut (impl_AbortSet_L4_ok w X θ i3621 i2603 x1 x2004 x3900 n x3620 0 hx3900) ?_
      rintro _ _ ⟨rfl, rfl⟩
      refine blockS_y ?_
      refine blockS_n ?_
      refine thenS_n ?_
      refine W_region ?_
      refine WO_step 2 [0, 1, 2] [5, 7, 29, 31] (True ∧ True) ⟨[(5, .one (.e (.rp 1 0 0))), (7, .one (.e (.rp 2 0 0))), (29, I i2603), (31, I (w64 (i3621 + 1)))], [.row .acc x1 false, .row .bool x2004 true, .row .bool x3900 true]⟩ (by kernel_rfl) ⟨trivial, trivial⟩ ?_
      refine WO_nil rfl ?_
      refine thenS_n ?_
      exact ih _ _ h
    · refine W_sub [0, 1, 2] [5, 7, 29] (st' := ⟨[(5, .one (.e (.rp 1 0 0))), (7, .one (.e (.rp 2 0 0))), (29, I i2603)], [.row .acc x1 false, .row .bool x2004 true, .row .bool x3620 true]⟩) (by kernel_rfl) ?_
      refine W_exit ?_
      refine thenS_e ?_
      refine thenS_e ?_
      cases h
      exact And.intro rfl rfl

def impl_AbortSet_L2 (x1 : List Acc) (x2004 : List Bool) : Nat → (List Bool) → Int → Option ((List Bool))
| 0, _, _ => none
| n + 1, x2602, i2603 =>
 iteO (decide (i2603 < 4))
 (bindO (impl_AbortSet_L3 i2603 x1 x2004 n x2602 0) fun x3762 =>
 impl_AbortSet_L2 x1 x2004 n x3762 (w64 (i2603 + 1)))
 (some x2602)

theorem impl_AbortSet_L2_ok (w : World) (X : Nat → Prop) (θ : List Loc) (x1 : List Acc) (x2004 : List Bool) (x3184 : (List Bool)) : ∀ (n : Nat) (x2602 : List Bool) (i2603 : Int), impl_AbortSet_L2 x1 x2004 n x2602 i2603 = some x3184 → WL EE ⟨w, X, θ, 54, 1⟩ (subC [1, 1, 1, 1, 1, 1, 0, 1, 4, 4] (bodyC Try.f32)) (fun (e : Exit) (s : St) => e = .exit 2 ∧ s = ⟨[(7, .one (.e (.rp 1 0 0)))], [.row .acc x1 false, .row .bool x3184 true]⟩) ⟨[(5, .one (.e (.rp 1 0 0))), (7, .one (.e (.rp 2 0 0))), (29, I i2603)], [.row .acc x1 false, .row .bool x2004 true, .row .bool x2602 true]⟩ := by
  intro n
  induction n with
  | zero => intro _ _ h; exact none_e h
  | succ n ih =>
    intro x2602 i2603 h
    rw [impl_AbortSet_L2] at h
    refine WL_round ?_
    refine W_seq ?_
    refine W_region ?_
    refine WO_step 1 [0, 1, 2] [5, 7, 29, 30] (True ∧ True) ⟨[(5, .one (.e (.rp 1 0 0))), (7, .one (.e (.rp 2 0 0))), (29, I i2603), (30, B (decide (i2603 < 4)))], [.row .acc x1 false, .row .bool x2004 true, .row .bool x2602 true]⟩ (by kernel_rfl) ⟨trivial, trivial⟩ ?_
    refine WO_nil rfl ?_
    refine thenS_n ?_
    refine W_seq ?_
    refine iteO_e h (fun hb3187 h => W_true rfl hb3187 ?_) (fun hb3187 h => W_false rfl hb3187 ?_)
    · refine W_sub [0, 1, 2] [5, 7, 29] (st' := ⟨[(5, .one (.e (.rp 1 0 0))), (7, .one (.e (.rp 2 0 0))), (29, I i2603)], [.row .acc x1 false, .row .bool x2004 true, .row .bool x2602 true]⟩) (by kernel_rfl) ?_
      refine W_skip ?_
      refine thenS_n ?_
      refine W_seq ?_
      refine W_block ?_
      refine W_seq ?_
      refine W_region ?_
      refine WO_step 1 [0, 1, 2] [5, 7, 29, 31] True ⟨[(5, .one (.e (.rp 1 0 0))), (7, .one (.e (.rp 2 0 0))), (29, I i2603), (31, I 0)], [.row .acc x1 false, .row .bool x2004 true, .row .bool x2602 true]⟩ (by kernel_rfl) trivial ?_
      refine WO_nil rfl ?_
      refine thenS_n ?_
      refine W_block ?_
      refine W_loop ?_
      refine bindO_e h (fun x3762 hx3762 h => ?_)
      refine WL_cut (impl_AbortSet_L3_ok w X θ i2603 x1 x2004 x3762 n x2602 0 hx3762) ?_
      rintro _ _ ⟨rfl, rfl⟩
      refine blockS_y ?_
      refine blockS_n ?_
      refine thenS_n ?_
      refine W_region ?_
      refine WO_step 2 [0, 1, 2] [5, 7, 29] (True ∧ True) ⟨[(5, .one (.e (.rp 1 0 0))), (7, .one (.e (.rp 2 0 0))), (29, I (w64 (i2603 + 1)))], [.row .acc x1 false, .row .bool x2004 true, .row .bool x3762 true]⟩ (by kernel_rfl) ⟨trivial, trivial⟩ ?_
      refine WO_nil rfl ?_
      refine thenS_n ?_
      exact ih _ _ h
    · refine W_sub [0, 2] [7] (st' := ⟨[(7, .one (.e (.rp 1 0 0)))], [.row .acc x1 false, .row .bool x2602 true]⟩) (by kernel_rfl) ?_
      refine W_exit ?_
      refine thenS_e ?_
      refine thenS_e ?_
      cases h
      exact And.intro rfl rfl

def impl_AbortSet (n : Nat) (x1 : List Acc) (i2 : Int) : Option ((List Int)) :=
 bindO (impl_ValidAccesses n x1) fun b1967 =>
 iteO ((!b1967) || (!(impl_within i2 0 3)))
 (some ([] : List Int))
 (bindO (impl_AbortSet_L1 x1 i2 n ([false, false, false, false, false, false, false, false, false, false, false, false, false, false, false, false] : List Bool) 0) fun x2004 =>
 guardO (0 ≤ i2 ∧ i2 < (4 : Int) ∧ (i2.toNat * 1) < ([false, false, false, false] : List Bool).length) <|
 bindO (impl_AbortSet_L2 x1 x2004 n (([false, false, false, false] : List Bool).set (i2.toNat * 1) true) 0) fun x3184 =>
 guardO (0 + 4 ≤ x3184.length) <|
 bindO (impl_marked n ((x3184.drop 0).take 4)) fun x3936 =>
 some x3936)

theorem impl_AbortSet_ok (n : Nat) (x1 : List Acc) (i2 : Int) (x1966 : List Int) (h : impl_AbortSet n x1 i2 = some x1966) : FOk EE 32 [.one (.e (.sl 0 0 x1.length)), I i2] [.row .acc x1 false] (.one (.e (.sl 1 0 x1966.length))) [.row .acc x1 false, .row .int x1966 true] := by
  unfold impl_AbortSet at h
  refine FOk_of_W 54 1 Try.func32 rfl rfl (Nat.le_of_ble_eq_true rfl) rfl (fun w X θ => ?_)
  refine W_seq ?_
  refine W_region ?_
  refine WO_step 1 [0] [0, 1] True ⟨[(0, .one (.e (.sl 0 0 x1.length))), (1, I i2)], [.row .acc x1 false]⟩ (by kernel_rfl) trivial ?_
  refine WO_nil rfl ?_
  refine thenS_n ?_
  refine W_seq ?_
  refine W_seq ?_
  refine W_region ?_
  refine WO_step 1 [0] [0, 1, 10] True ⟨[(0, .one (.e (.sl 0 0 x1.length))), (1, I i2), (10, .one (.e (.sl 0 0 x1.length)))], [.row .acc x1 false]⟩ (by kernel_rfl) trivial ?_
  refine bindO_e h (fun b1967 hc1968 h => ?_)
  refine WO_call [.ro 0] Try.f19 rfl rfl rfl (by kernel_rfl) rfl rfl (by kernel_rfl) (impl_ValidAccesses_ok n x1 b1967 hc1968) (And.intro (And.intro rfl rfl) (trivial)) rfl ?_
  refine WO_step 2 [0] [0, 1, 13] True ⟨[(0, .one (.e (.sl 0 0 x1.length))), (1, I i2), (13, B (!b1967))], [.row .acc x1 false]⟩ (by kernel_rfl) trivial ?_
  refine WO_thru ⟨[(0, .one (.e (.sl 0 0 x1.length))), (1, I i2), (17, B ((!b1967) || (!(impl_within i2 0 3))))], [.row .acc x1 false]⟩ ?_ ?_
  · refine WO_if 13 rfl (fun hb1971 => ?_) (fun hb1971 => ?_)
    · refine WO_step 4 [0] [0, 1, 17] True ⟨[(0, .one (.e (.sl 0 0 x1.length))), (1, I i2), (17, B true)], [.row .acc x1 false]⟩ (by kernel_rfl) trivial ?_
      exact WO_nil rfl ⟨rfl, by first | rfl | (rw [hb1971]; first | done | rfl)⟩
    · refine WO_step 1 [0] [0, 1, 13, 14] True ⟨[(0, .one (.e (.sl 0 0 x1.length))), (1, I i2), (13, B false), (14, I i2)], [.row .acc x1 false]⟩ (by kernel_rfl) trivial ?_
      refine WO_call [] Try.f42 rfl rfl rfl (by kernel_rfl) rfl rfl (by kernel_rfl) (impl_within_ok i2 0 3) (trivial) rfl ?_
      refine WO_step 2 [0] [0, 1, 17] True ⟨[(0, .one (.e (.sl 0 0 x1.length))), (1, I i2), (17, B (!(impl_within i2 0 3)))], [.row .acc x1 false]⟩ (by kernel_rfl) trivial ?_
      exact WO_nil rfl ⟨rfl, by first | rfl | (rw [hb1971]; first | done | rfl)⟩
  · refine thenS_n ?_
    refine iteO_e h (fun hb1973 h => W_true rfl hb1973 ?_) (fun hb1973 h => W_false rfl hb1973 ?_)
    · refine W_seq ?_
      refine W_region ?_
      refine WO_step 1 [0] [4] True ⟨[(4, .one (.e (.nsl)))], [.row .acc x1 false]⟩ (by kernel_rfl) trivial ?_
      refine WO_nilrow 4 .int rfl ?_
      refine WO_sub [0, 1] [4] (st' := ⟨[(4, .one (.e (.sl 1 0 (([] : List Int).length))))], [.row .acc x1 false, .row .int ([] : List Int) true]⟩) (by kernel_rfl) ?_
      refine WO_nil rfl ?_
      refine thenS_n ?_
      refine W_ret ?_
      refine thenS_r ?_
      cases h
      exact ⟨[0, 1], True, by kernel_rfl, trivial⟩
    · refine W_sub [0] [0, 1] (st' := ⟨[(0, .one (.e (.sl 0 0 x1.length))), (1, I i2)], [.row .acc x1 false]⟩) (by kernel_rfl) ?_
      refine W_skip ?_
      refine thenS_n ?_
      refine W_seq ?_
      refine W_region ?_
      refine WO_step 1 [0, 1] [0, 1, 5] ((0 < ([false, false, false, false, false, false, false, false, false, false, false, false, false, false, false, false] : List Bool).length ∧ ([false, false, false, false, false, false, false, false, false, false, false, false, false, false, false, false] : List Bool).length ≤ 1099511627776) ∧ True) ⟨[(0, .one (.e (.sl 0 0 x1.length))), (1, I i2), (5, .one (.e (.rp 1 0 0)))], [.row .acc x1 false, .row .bool ([false, false, false, false, false, false, false, false, false, false, false, false, false, false, false, false] : List Bool) true]⟩ (by kernel_rfl) ⟨(by decide), trivial⟩ ?_
      refine WO_nil rfl ?_
      refine thenS_n ?_
      refine W_seq ?_
      refine W_seq ?_
      refine W_region ?_
      refine WO_step 1 [0, 1] [0, 1, 5, 18] True ⟨[(0, .one (.e (.sl 0 0 x1.length))), (1, I i2), (5, .one (.e (.rp 1 0 0))), (18, I 0)], [.row .acc x1 false, .row .bool ([false, false, false, false, false, false, false, false, false, false, false, false, false, false, false, false] : List Bool) true]⟩ (by kernel_rfl) trivial ?_
      refine WO_nil rfl ?_
      refine thenS_n ?_
      refine W_block ?_
      refine W_loop ?_
      refine bindO_e h (fun x2004 hx2004 h => ?_)
      refine WL_cut (impl_AbortSet_L1_ok w X θ x1 i2 x2004 n ([false, false, false, false, false, false, false, false, false, false, false, false, false, false, false, false] : List Bool) 0 hx2004) ?_
      rintro _ _ ⟨rfl, rfl⟩
      refine blockS_y ?_
      refine thenS_n ?_
      refine W_seq ?_
      refine W_region ?_
      refine WO_step 1 [0, 1, 2] [1, 5, 7] ((0 < ([false, false, false, false] : List Bool).length ∧ ([false, false, false, false] : List Bool).length ≤ 1099511627776) ∧ True) ⟨[(1, I i2), (5, .one (.e (.rp 1 0 0))), (7, .one (.e (.rp 2 0 0)))], [.row .acc x1 false, .row .bool x2004 true, .row .bool ([false, false, false, false] : List Bool) true]⟩ (by kernel_rfl) ⟨(by decide), trivial⟩ ?_
      refine WO_nil rfl ?_
      refine thenS_n ?_
      refine W_seq ?_
      refine W_region ?_
      refine guardO_e h (fun hg2017 h => ?_)
      refine WO_step 3 [0, 1, 2] [5, 7] ((0 ≤ i2 ∧ i2 < (4 : Int) ∧ (i2.toNat * 1) < ([false, false, false, false] : List Bool).length) ∧ (True ∧ True)) ⟨[(5, .one (.e (.rp 1 0 0))), (7, .one (.e (.rp 2 0 0)))], [.row .acc x1 false, .row .bool x2004 true, .row .bool (([false, false, false, false] : List Bool).set (i2.toNat * 1) true) true]⟩ (by kernel_rfl) ⟨hg2017, trivial, trivial⟩ ?_
      refine WO_nil rfl ?_
      refine thenS_n ?_
      refine W_seq ?_
      refine W_seq ?_
      refine W_region ?_
      refine WO_step 1 [0, 1, 2] [5, 7, 29] True ⟨[(5, .one (.e (.rp 1 0 0))), (7, .one (.e (.rp 2 0 0))), (29, I 0)], [.row .acc x1 false, .row .bool x2004 true, .row .bool (([false, false, false, false] : List Bool).set (i2.toNat * 1) true) true]⟩ (by kernel_rfl) trivial ?_
      refine WO_nil rfl ?_
      refine thenS_n ?_
      refine W_block ?_
      refine W_loop ?_
      refine bindO_e h (fun x3184 hx3184 h => ?_)
      refine WL_cut (impl_AbortSet_L2_ok w X θ x1 x2004 x3184 n (([false, false, false, false] : List Bool).set (i2.toNat * 1) true) 0 hx3184) ?_
      rintro _ _ ⟨rfl, rfl⟩
      refine blockS_y ?_
      refine thenS_n ?_
      refine W_seq ?_
      refine W_region ?_
      refine guardO_e h (fun hg3935 h => ?_)
      refine WO_step 1 [0] [52] ((0 + 4 ≤ x3184.length) ∧ True) ⟨[(52, .one (.arr .bool ((x3184.drop 0).take 4)))], [.row .acc x1 false]⟩ (by kernel_rfl) ⟨hg3935, trivial⟩ ?_
      refine bindO_e h (fun x3936 hc3937 h => ?_)
      refine WO_call [] Try.f38 rfl rfl rfl (by kernel_rfl) rfl rfl (by kernel_rfl) (impl_marked_ok n ((x3184.drop 0).take 4) x3936 hc3937) (trivial) rfl ?_
      refine WO_step 1 [0, 1] [4] True ⟨[(4, .one (.e (.sl 1 0 x3936.length)))], [.row .acc x1 false, .row .int x3936 true]⟩ (by kernel_rfl) trivial ?_
      refine WO_nil rfl ?_
      refine thenS_n ?_
      refine W_ret ?_
      cases h
      exact ⟨[0, 1], True, by kernel_rfl, trivial⟩

/- spec.AbortSet -/
def spec_AbortSet_L2 (x1 : List Acc) (i737 : Int) : Nat → (List Int) → Int → Option ((List Int))
| 0, _, _ => none
| n + 1, x1012, i1013 =>
 iteO (decide (i1013 < 4))
 (guardO (0 ≤ i737 ∧ i737 < ((x1012.length : Nat) : Int)) <|
 bindO (spec_readsFrom n x1 i1013 (x1012.getD i737.toNat 0)) fun b1068 =>
 bindO (iteO b1068
 (bindO (spec_isIn n x1012 i1013) fun b1076 =>
 some (!b1076))
 (some false)) fun b1073 =>
 bindO (iteO b1073
 (guardO (0 = 0 ∧ x1012.length = x1012.length ∧ x1012.length + (([i1013].drop 0).take ([i1013].length)).length ≤ 1099511627776) <|
 some (x1012 ++ (([i1013].drop 0).take ([i1013].length))))
 (some x1012)) fun x1080 =>
 spec_AbortSet_L2 x1 i737 n x1080 (w64 (i1013 + 1)))
 (some x1012)

theorem spec_AbortSet_L2_ok (w : World) (X : Nat → Prop) (θ : List Loc) (x1 : List Acc) (i737 : Int) (x1048 : (List Int)) : ∀ (n : Nat) (x1012 : List Int) (i1013 : Int), spec_AbortSet_L2 x1 i737 n x1012 i1013 = some x1048 → WL EE ⟨w, X, θ, 60, 1⟩ (subC [1, 1, 1, 0, 1, 4, 4, 1, 0, 4, 1, 4, 4] (bodyC Try.f33)) (fun (e : Exit) (s : St) => e = .exit 2 ∧ s = ⟨[(0, .one (.e (.sl 0 0 x1.length))), (5, .one (.e (.sl 1 0 x1048.length))), (6, I i737)], [.row .acc x1 false, .row .int x1048 true]⟩) ⟨[(0, .one (.e (.sl 0 0 x1.length))), (5, .one (.e (.sl 1 0 x1012.length))), (6, I i737), (7, I i1013)], [.row .acc x1 false, .row .int x1012 true]⟩ := by
  intro n
  induction n with
  | zero => intro _ _ h; exact none_e h
  | succ n ih =>
    intro x1012 i1013 h
    rw [spec_AbortSet_L2] at h
    refine WL_round ?_
    refine W_seq ?_
    refine W_seq ?_
    refine W_region ?_
    refine WO_step 2 [0, 1] [0, 5, 6, 7, 27] (True ∧ True) ⟨[(0, .one (.e (.sl 0 0 x1.length))), (5, .one (.e (.sl 1 0 x1012.length))), (6, I i737), (7, I i1013), (27, B (decide (i1013 < 4)))], [.row .acc x1 false, .row .int x1012 true]⟩ (by kernel_rfl) ⟨trivial, trivial⟩ ?_
    refine WO_nil rfl ?_
    refine thenS_n ?_
    refine iteO_e h (fun hb1051 h => W_true rfl hb1051 ?_) (fun hb1051 h => W_false rfl hb1051 ?_)
    · refine W_sub [0, 1] [0, 5, 6, 7] (st' := ⟨[(0, .one (.e (.sl 0 0 x1.length))), (5, .one (.e (.sl 1 0 x1012.length))), (6, I i737), (7, I i1013)], [.row .acc x1 false, .row .int x1012 true]⟩) (by kernel_rfl) ?_
      refine W_skip ?_
      refine thenS_n ?_
      refine W_seq ?_
      refine W_block ?_
      refine W_seq ?_
      refine W_region ?_
      refine guardO_e h (fun hg1067 h => ?_)
      refine WO_step 6 [0, 1] [0, 5, 6, 7, 30, 31, 35] ((0 ≤ i737 ∧ i737 < ((x1012.length : Nat) : Int)) ∧ (True ∧ True)) ⟨[(0, .one (.e (.sl 0 0 x1.length))), (5, .one (.e (.sl 1 0 x1012.length))), (6, I i737), (7, I i1013), (30, .one (.e (.sl 0 0 x1.length))), (31, I i1013), (35, I (x1012.getD i737.toNat 0))], [.row .acc x1 false, .row .int x1012 true]⟩ (by kernel_rfl) ⟨hg1067, trivial, trivial⟩ ?_
      refine bindO_e h (fun b1068 hc1069 h => ?_)
      refine WO_call [.ro 0] Try.f41 rfl rfl rfl (by kernel_rfl) rfl rfl (by kernel_rfl) (spec_readsFrom_ok n x1 i1013 (x1012.getD i737.toNat 0) b1068 hc1069) (And.intro (And.intro rfl rfl) (trivial)) rfl ?_
      refine WO_step 1 [0, 1] [0, 5, 6, 7, 37] True ⟨[(0, .one (.e (.sl 0 0 x1.length))), (5, .one (.e (.sl 1 0 x1012.length))), (6, I i737), (7, I i1013), (37, B b1068)], [.row .acc x1 false, .row .int x1012 true]⟩ (by kernel_rfl) trivial ?_
      refine bindO_e h (fun b1073 hv1074 h => ?_)
      refine WO_thru ⟨[(0, .one (.e (.sl 0 0 x1.length))), (5, .one (.e (.sl 1 0 x1012.length))), (6, I i737), (7, I i1013), (42, B b1073)], [.row .acc x1 false, .row .int x1012 true]⟩ ?_ ?_
      · refine iteO_e hv1074 (fun hb1075 hv1074 => WO_known 37 true rfl hb1075 ?_) (fun hb1075 hv1074 => WO_known 37 false rfl hb1075 ?_)
        · refine WO_step 2 [0, 1] [0, 5, 6, 7, 37, 38, 39] True ⟨[(0, .one (.e (.sl 0 0 x1.length))), (5, .one (.e (.sl 1 0 x1012.length))), (6, I i737), (7, I i1013), (37, B true), (38, .one (.e (.sl 1 0 x1012.length))), (39, I i1013)], [.row .acc x1 false, .row .int x1012 true]⟩ (by kernel_rfl) trivial ?_
          refine bindO_e hv1074 (fun b1076 hc1077 hv1074 => ?_)
          refine WO_call [.ro 1] Try.f44 rfl rfl rfl (by kernel_rfl) rfl rfl (by kernel_rfl) (spec_isIn_ok n x1012 i1013 b1076 hc1077) (And.intro (And.intro rfl rfl) (trivial)) rfl ?_
          refine WO_step 2 [0, 1] [0, 5, 6, 7, 42] True ⟨[(0, .one (.e (.sl 0 0 x1.length))), (5, .one (.e (.sl 1 0 x1012.length))), (6, I i737), (7, I i1013), (42, B (!b1076))], [.row .acc x1 false, .row .int x1012 true]⟩ (by kernel_rfl) trivial ?_
          cases hv1074
          exact WO_nil rfl ⟨rfl, rfl⟩
        · refine WO_step 5 [0, 1] [0, 5, 6, 7, 42] True ⟨[(0, .one (.e (.sl 0 0 x1.length))), (5, .one (.e (.sl 1 0 x1012.length))), (6, I i737), (7, I i1013), (42, B false)], [.row .acc x1 false, .row .int x1012 true]⟩ (by kernel_rfl) trivial ?_
          cases hv1074
          exact WO_nil rfl ⟨rfl, rfl⟩
      · refine thenS_n ?_
        refine bindO_e h (fun x1080 hx1080 h => ?_)
        refine W_cut (Q' := fun (e : Exit) (s : St) => e = .normal ∧ s = ⟨[(0, .one (.e (.sl 0 0 x1.length))), (5, .one (.e (.sl 1 0 x1080.length))), (6, I i737), (7, I i1013)], [.row .acc x1 false, .row .int x1080 true]⟩) ?_ ?_
        · refine iteO_e hx1080 (fun hb1082 hx1080 => W_true rfl hb1082 ?_) (fun hb1082 hx1080 => W_false rfl hb1082 ?_)
          · refine W_region ?_
            refine guardO_e hx1080 (fun hg1083 hx1080 => ?_)
            refine WO_step 5 [0, 3] [0, 5, 6, 7] ((0 = 0 ∧ x1012.length = x1012.length ∧ x1012.length + (([i1013].drop 0).take ([i1013].length)).length ≤ 1099511627776) ∧ True) ⟨[(0, .one (.e (.sl 0 0 x1.length))), (5, .one (.e (.sl 1 0 ((x1012 ++ (([i1013].drop 0).take ([i1013].length))).length)))), (6, I i737), (7, I i1013)], [.row .acc x1 false, .row .int (x1012 ++ (([i1013].drop 0).take ([i1013].length))) true]⟩ (by kernel_rfl) ⟨hg1083, trivial⟩ ?_
            refine WO_nil rfl ?_
            cases hx1080
            exact And.intro rfl rfl
          · refine W_sub [0, 1] [0, 5, 6, 7] (st' := ⟨[(0, .one (.e (.sl 0 0 x1.length))), (5, .one (.e (.sl 1 0 x1012.length))), (6, I i737), (7, I i1013)], [.row .acc x1 false, .row .int x1012 true]⟩) (by kernel_rfl) ?_
            refine W_skip ?_
            cases hx1080
            exact And.intro rfl rfl
        · rintro _ _ ⟨rfl, rfl⟩
          refine blockS_n ?_
          refine thenS_n ?_
          refine W_region ?_
          refine WO_step 3 [0, 1] [0, 5, 6, 7] (True ∧ True) ⟨[(0, .one (.e (.sl 0 0 x1.length))), (5, .one (.e (.sl 1 0 x1080.length))), (6, I i737), (7, I (w64 (i1013 + 1)))], [.row .acc x1 false, .row .int x1080 true]⟩ (by kernel_rfl) ⟨trivial, trivial⟩ ?_
          refine WO_nil rfl ?_
          refine thenS_n ?_
          exact ih _ _ h
    · refine W_sub [0, 1] [0, 5, 6] (st' := ⟨[(0, .one (.e (.sl 0 0 x1.length))), (5, .one (.e (.sl 1 0 x1012.length))), (6, I i737)], [.row .acc x1 false, .row .int x1012 true]⟩) (by kernel_rfl) ?_
      refine W_exit ?_
      refine thenS_e ?_
      refine thenS_e ?_
      cases h
      exact And.intro rfl rfl

def spec_AbortSet_L1 (x1 : List Acc) : Nat → (List Int) → Int → Option ((List Int))
| 0, _, _ => none
| n + 1, x736, i737 =>
 iteO (decide (i737 < ((x736.length : Nat) : Int)))
 (bindO (spec_AbortSet_L2 x1 i737 n x736 0) fun x1048 =>
 spec_AbortSet_L1 x1 n x1048 (w64 (i737 + 1)))
 (some x736)

theorem spec_AbortSet_L1_ok (w : World) (X : Nat → Prop) (θ : List Loc) (x1 : List Acc) (x894 : (List Int)) : ∀ (n : Nat) (x736 : List Int) (i737 : Int), spec_AbortSet_L1 x1 n x736 i737 = some x894 → WL EE ⟨w, X, θ, 60, 1⟩ (subC [1, 1, 1, 0, 1, 4, 4] (bodyC Try.f33)) (fun (e : Exit) (s : St) => e = .exit 0 ∧ s = ⟨[(5, .one (.e (.sl 1 0 x894.length)))], [.row .acc x1 false, .row .int x894 true]⟩) ⟨[(0, .one (.e (.sl 0 0 x1.length))), (5, .one (.e (.sl 1 0 x736.length))), (6, I i737)], [.row .acc x1 false, .row .int x736 true]⟩ := by
  intro n
  induction n with
  | zero => intro _ _ h; exact none_e h
  | succ n ih =>
    intro x736 i737 h
    rw [spec_AbortSet_L1] at h
    refine WL_round ?_
    refine W_seq ?_
    refine W_seq ?_
    refine W_region ?_
    refine WO_step 4 [0, 1] [0, 5, 6, 23] (True ∧ (True ∧ True)) ⟨[(0, .one (.e (.sl 0 0 x1.length))), (5, .one (.e (.sl 1 0 x736.length))), (6, I i737), (23, B (decide (i737 < ((x736.length : Nat) : Int))))], [.row .acc x1 false, .row .int x736 true]⟩ (by kernel_rfl) ⟨trivial, trivial, trivial⟩ ?_
    refine WO_nil rfl ?_
    refine thenS_n ?_
    refine iteO_e h (fun hb897 h => W_true rfl hb897 ?_) (fun hb897 h => W_false rfl hb897 ?_)
    · refine W_sub [0, 1] [0, 5, 6] (st' := ⟨[(0, .one (.e (.sl 0 0 x1.length))), (5, .one (.e (.sl 1 0 x736.length))), (6, I i737)], [.row .acc x1 false, .row .int x736 true]⟩) (by kernel_rfl) ?_
      refine W_skip ?_
      refine thenS_n ?_
      refine W_seq ?_
      refine W_block ?_
      refine W_seq ?_
      refine W_region ?_
      refine WO_step 1 [0, 1] [0, 5, 6, 7] True ⟨[(0, .one (.e (.sl 0 0 x1.length))), (5, .one (.e (.sl 1 0 x736.length))), (6, I i737), (7, I 0)], [.row .acc x1 false, .row .int x736 true]⟩ (by kernel_rfl) trivial ?_
      refine WO_nil rfl ?_
      refine thenS_n ?_
      refine W_block ?_
      refine W_loop ?_
      refine bindO_e h (fun x1048 hx1048 h => ?_)
      refine WL_cut (spec_AbortSet_L2_ok w X θ x1 i737 x1048 n x736 0 hx1048) ?_
      rintro _ _ ⟨rfl, rfl⟩
      refine blockS_y ?_
      refine blockS_n ?_
      refine thenS_n ?_
      refine W_region ?_
      refine WO_step 3 [0, 1] [0, 5, 6] (True ∧ True) ⟨[(0, .one (.e (.sl 0 0 x1.length))), (5, .one (.e (.sl 1 0 x1048.length))), (6, I (w64 (i737 + 1)))], [.row .acc x1 false, .row .int x1048 true]⟩ (by kernel_rfl) ⟨trivial, trivial⟩ ?_
      refine WO_nil rfl ?_
      refine thenS_n ?_
      exact ih _ _ h
    · refine W_sub [0, 1] [5] (st' := ⟨[(5, .one (.e (.sl 1 0 x736.length)))], [.row .acc x1 false, .row .int x736 true]⟩) (by kernel_rfl) ?_
      refine W_exit ?_
      refine thenS_e ?_
      refine thenS_e ?_
      cases h
      exact And.intro rfl rfl

def spec_AbortSet_L3 (x894 : List Int) (x1 : List Acc) : Nat → (List Int) → Int → Option ((List Int))
| 0, _, _ => none
| n + 1, x1106, i1107 =>
 iteO (decide (i1107 < 4))
 (bindO (spec_isIn n x894 i1107) fun b1134 =>
 bindO (iteO b1134
 (guardO (0 = 0 ∧ x1106.length = x1106.length ∧ x1106.length + (([i1107].drop 0).take ([i1107].length)).length ≤ 1099511627776) <|
 some (x1106 ++ (([i1107].drop 0).take ([i1107].length))))
 (some x1106)) fun x1138 =>
 spec_AbortSet_L3 x894 x1 n x1138 (w64 (i1107 + 1)))
 (some x1106)

theorem spec_AbortSet_L3_ok (w : World) (X : Nat → Prop) (θ : List Loc) (x894 : List Int) (x1 : List Acc) (x1124 : (List Int)) : ∀ (n : Nat) (x1106 : List Int) (i1107 : Int), spec_AbortSet_L3 x894 x1 n x1106 i1107 = some x1124 → WL EE ⟨w, X, θ, 60, 1⟩ (subC [1, 1, 1, 1, 1, 0, 1, 4, 4] (bodyC Try.f33)) (fun (e : Exit) (s : St) => e = .exit 4 ∧ s = ⟨[(8, .one (.e (.sl 1 0 x1124.length)))], [.row .acc x1 false, .row .int x1124 true]⟩) ⟨[(5, .one (.e (.sl 1 0 x894.length))), (8, .one (.e (.sl 2 0 x1106.length))), (9, I i1107)], [.row .acc x1 false, .row .int x894 true, .row .int x1106 true]⟩ := by
  intro n
  induction n with
  | zero => intro _ _ h; exact none_e h
  | succ n ih =>
    intro x1106 i1107 h
    rw [spec_AbortSet_L3] at h
    refine WL_round ?_
    refine W_seq ?_
    refine W_seq ?_
    refine W_region ?_
    refine WO_step 2 [0, 1, 2] [5, 8, 9, 49] (True ∧ True) ⟨[(5, .one (.e (.sl 1 0 x894.length))), (8, .one (.e (.sl 2 0 x1106.length))), (9, I i1107), (49, B (decide (i1107 < 4)))], [.row .acc x1 false, .row .int x894 true, .row .int x1106 true]⟩ (by kernel_rfl) ⟨trivial, trivial⟩ ?_
    refine WO_nil rfl ?_
    refine thenS_n ?_
    refine iteO_e h (fun hb1127 h => W_true rfl hb1127 ?_) (fun hb1127 h => W_false rfl hb1127 ?_)
    · refine W_sub [0, 1, 2] [5, 8, 9] (st' := ⟨[(5, .one (.e (.sl 1 0 x894.length))), (8, .one (.e (.sl 2 0 x1106.length))), (9, I i1107)], [.row .acc x1 false, .row .int x894 true, .row .int x1106 true]⟩) (by kernel_rfl) ?_
      refine W_skip ?_
      refine thenS_n ?_
      refine W_seq ?_
      refine W_block ?_
      refine W_seq ?_
      refine W_region ?_
      refine WO_step 2 [0, 1, 2] [5, 8, 9, 52, 53] True ⟨[(5, .one (.e (.sl 1 0 x894.length))), (8, .one (.e (.sl 2 0 x1106.length))), (9, I i1107), (52, .one (.e (.sl 1 0 x894.length))), (53, I i1107)], [.row .acc x1 false, .row .int x894 true, .row .int x1106 true]⟩ (by kernel_rfl) trivial ?_
      refine bindO_e h (fun b1134 hc1135 h => ?_)
      refine WO_call [.ro 1] Try.f44 rfl rfl rfl (by kernel_rfl) rfl rfl (by kernel_rfl) (spec_isIn_ok n x894 i1107 b1134 hc1135) (And.intro (And.intro rfl rfl) (trivial)) rfl ?_
      refine WO_sub [0, 1, 2] [5, 8, 9, 54] (st' := ⟨[(5, .one (.e (.sl 1 0 x894.length))), (8, .one (.e (.sl 2 0 x1106.length))), (9, I i1107), (54, B b1134)], [.row .acc x1 false, .row .int x894 true, .row .int x1106 true]⟩) (by kernel_rfl) ?_
      refine WO_nil rfl ?_
      refine thenS_n ?_
      refine bindO_e h (fun x1138 hx1138 h => ?_)
      refine W_cut (Q' := fun (e : Exit) (s : St) => e = .normal ∧ s = ⟨[(5, .one (.e (.sl 1 0 x894.length))), (8, .one (.e (.sl 2 0 x1138.length))), (9, I i1107)], [.row .acc x1 false, .row .int x894 true, .row .int x1138 true]⟩) ?_ ?_
      · refine iteO_e hx1138 (fun hb1140 hx1138 => W_true rfl hb1140 ?_) (fun hb1140 hx1138 => W_false rfl hb1140 ?_)
        · refine W_region ?_
          refine guardO_e hx1138 (fun hg1141 hx1138 => ?_)
          refine WO_step 5 [0, 1, 4] [5, 8, 9] ((0 = 0 ∧ x1106.length = x1106.length ∧ x1106.length + (([i1107].drop 0).take ([i1107].length)).length ≤ 1099511627776) ∧ True) ⟨[(5, .one (.e (.sl 1 0 x894.length))), (8, .one (.e (.sl 2 0 ((x1106 ++ (([i1107].drop 0).take ([i1107].length))).length)))), (9, I i1107)], [.row .acc x1 false, .row .int x894 true, .row .int (x1106 ++ (([i1107].drop 0).take ([i1107].length))) true]⟩ (by kernel_rfl) ⟨hg1141, trivial⟩ ?_
          refine WO_nil rfl ?_
          cases hx1138
          exact And.intro rfl rfl
        · refine W_sub [0, 1, 2] [5, 8, 9] (st' := ⟨[(5, .one (.e (.sl 1 0 x894.length))), (8, .one (.e (.sl 2 0 x1106.length))), (9, I i1107)], [.row .acc x1 false, .row .int x894 true, .row .int x1106 true]⟩) (by kernel_rfl) ?_
          refine W_skip ?_
          cases hx1138
          exact And.intro rfl rfl
      · rintro _ _ ⟨rfl, rfl⟩
        refine blockS_n ?_
        refine thenS_n ?_
        refine W_region ?_
        refine WO_step 3 [0, 1, 2] [5, 8, 9] (True ∧ True) ⟨[(5, .one (.e (.sl 1 0 x894.length))), (8, .one (.e (.sl 2 0 x1138.length))), (9, I (w64 (i1107 + 1)))], [.row .acc x1 false, .row .int x894 true, .row .int x1138 true]⟩ (by kernel_rfl) ⟨trivial, trivial⟩ ?_
        refine WO_nil rfl ?_
        refine thenS_n ?_
        exact ih _ _ h
    · refine W_sub [0, 2] [8] (st' := ⟨[(8, .one (.e (.sl 1 0 x1106.length)))], [.row .acc x1 false, .row .int x1106 true]⟩) (by kernel_rfl) ?_
      refine W_exit ?_
      refine thenS_e ?_
      refine thenS_e ?_
      cases h
      exact And.intro rfl rfl

def spec_AbortSet (n : Nat) (x1 : List Acc) (i2 : Int) : Option ((List Int)) :=
 bindO (spec_validAccesses n x1) fun b569 =>
 iteO ((!b569) || (!(spec_inRange i2 0 3)))
 (some ([] : List Int))
 (bindO (spec_AbortSet_L1 x1 n [i2] 0) fun x894 =>
 bindO (spec_AbortSet_L3 x894 x1 n ([] : List Int) 0) fun x1124 =>
 some x1124)

theorem spec_AbortSet_ok (n : Nat) (x1 : List Acc) (i2 : Int) (x568 : List Int) (h : spec_AbortSet n x1 i2 = some x568) : FOk EE 33 [.one (.e (.sl 0 0 x1.length)), I i2] [.row .acc x1 false] (.one (.e (.sl 1 0 x568.length))) [.row .acc x1 false, .row .int x568 true] := by
  unfold spec_AbortSet at h
  refine FOk_of_W 60 1 Try.func33 rfl rfl (Nat.le_of_ble_eq_true rfl) rfl (fun w X θ => ?_)
  refine W_seq ?_
  refine W_region ?_
  refine WO_step 1 [0] [0, 1] True ⟨[(0, .one (.e (.sl 0 0 x1.length))), (1, I i2)], [.row .acc x1 false]⟩ (by kernel_rfl) trivial ?_
  refine WO_nil rfl ?_
  refine thenS_n ?_
  refine W_seq ?_
  refine W_seq ?_
  refine W_region ?_
  refine WO_step 1 [0] [0, 1, 10] True ⟨[(0, .one (.e (.sl 0 0 x1.length))), (1, I i2), (10, .one (.e (.sl 0 0 x1.length)))], [.row .acc x1 false]⟩ (by kernel_rfl) trivial ?_
  refine bindO_e h (fun b569 hc570 h => ?_)
  refine WO_call [.ro 0] Try.f40 rfl rfl rfl (by kernel_rfl) rfl rfl (by kernel_rfl) (spec_validAccesses_ok n x1 b569 hc570) (And.intro (And.intro rfl rfl) (trivial)) rfl ?_
  refine WO_step 2 [0] [0, 1, 13] True ⟨[(0, .one (.e (.sl 0 0 x1.length))), (1, I i2), (13, B (!b569))], [.row .acc x1 false]⟩ (by kernel_rfl) trivial ?_
  refine WO_thru ⟨[(0, .one (.e (.sl 0 0 x1.length))), (1, I i2), (17, B ((!b569) || (!(spec_inRange i2 0 3))))], [.row .acc x1 false]⟩ ?_ ?_
  · refine WO_if 13 rfl (fun hb573 => ?_) (fun hb573 => ?_)
    · refine WO_step 4 [0] [0, 1, 17] True ⟨[(0, .one (.e (.sl 0 0 x1.length))), (1, I i2), (17, B true)], [.row .acc x1 false]⟩ (by kernel_rfl) trivial ?_
      exact WO_nil rfl ⟨rfl, by first | rfl | (rw [hb573]; first | done | rfl)⟩
    · refine WO_step 1 [0] [0, 1, 13, 14] True ⟨[(0, .one (.e (.sl 0 0 x1.length))), (1, I i2), (13, B false), (14, I i2)], [.row .acc x1 false]⟩ (by kernel_rfl) trivial ?_
      refine WO_call [] Try.f47 rfl rfl rfl (by kernel_rfl) rfl rfl (by kernel_rfl) (spec_inRange_ok i2 0 3) (trivial) rfl ?_
      refine WO_step 2 [0] [0, 1, 17] True ⟨[(0, .one (.e (.sl 0 0 x1.length))), (1, I i2), (17, B (!(spec_inRange i2 0 3)))], [.row .acc x1 false]⟩ (by kernel_rfl) trivial ?_
      exact WO_nil rfl ⟨rfl, by first | rfl | (rw [hb573]; first | done | rfl)⟩
  · refine thenS_n ?_
    refine iteO_e h (fun hb575 h => W_true rfl hb575 ?_) (fun hb575 h => W_false rfl hb575 ?_)
    · refine W_seq ?_
      refine W_region ?_
      refine WO_step 1 [0] [4] True ⟨[(4, .one (.e (.nsl)))], [.row .acc x1 false]⟩ (by kernel_rfl) trivial ?_
      refine WO_nilrow 4 .int rfl ?_
      refine WO_sub [0, 1] [4] (st' := ⟨[(4, .one (.e (.sl 1 0 (([] : List Int).length))))], [.row .acc x1 false, .row .int ([] : List Int) true]⟩) (by kernel_rfl) ?_
      refine WO_nil rfl ?_
      refine thenS_n ?_
      refine W_ret ?_
      refine thenS_r ?_
      cases h
      exact ⟨[0, 1], True, by kernel_rfl, trivial⟩
    · refine W_sub [0] [0, 1] (st' := ⟨[(0, .one (.e (.sl 0 0 x1.length))), (1, I i2)], [.row .acc x1 false]⟩) (by kernel_rfl) ?_
      refine W_skip ?_
      refine thenS_n ?_
      refine W_seq ?_
      refine W_region ?_
      refine WO_step 3 [0, 1] [0, 5] True ⟨[(0, .one (.e (.sl 0 0 x1.length))), (5, .one (.e (.sl 1 0 ([i2].length))))], [.row .acc x1 false, .row .int [i2] true]⟩ (by kernel_rfl) trivial ?_
      refine WO_nil rfl ?_
      refine thenS_n ?_
      refine W_seq ?_
      refine W_seq ?_
      refine W_region ?_
      refine WO_step 1 [0, 1] [0, 5, 6] True ⟨[(0, .one (.e (.sl 0 0 x1.length))), (5, .one (.e (.sl 1 0 ([i2].length)))), (6, I 0)], [.row .acc x1 false, .row .int [i2] true]⟩ (by kernel_rfl) trivial ?_
      refine WO_nil rfl ?_
      refine thenS_n ?_
      refine W_block ?_
      refine W_loop ?_
      refine bindO_e h (fun x894 hx894 h => ?_)
      refine WL_cut (spec_AbortSet_L1_ok w X θ x1 x894 n [i2] 0 hx894) ?_
      rintro _ _ ⟨rfl, rfl⟩
      refine blockS_y ?_
      refine thenS_n ?_
      refine W_seq ?_
      refine W_region ?_
      refine WO_step 2 [0, 1, 2] [5, 8] True ⟨[(5, .one (.e (.sl 1 0 x894.length))), (8, .one (.e (.sl 2 0 (([] : List Int).length))))], [.row .acc x1 false, .row .int x894 true, .row .int ([] : List Int) true]⟩ (by kernel_rfl) trivial ?_
      refine WO_nil rfl ?_
      refine thenS_n ?_
      refine W_seq ?_
      refine W_seq ?_
      refine W_region ?_
      refine WO_step 1 [0, 1, 2] [5, 8, 9] True ⟨[(5, .one (.e (.sl 1 0 x894.length))), (8, .one (.e (.sl 2 0 (([] : List Int).length)))), (9, I 0)], [.row .acc x1 false, .row .int x894 true, .row .int ([] : List Int) true]⟩ (by kernel_rfl) trivial ?_
      refine WO_nil rfl ?_
      refine thenS_n ?_
      refine W_block ?_
      refine W_loop ?_
      refine bindO_e h (fun x1124 hx1124 h => ?_)
      refine WL_cut (spec_AbortSet_L3_ok w X θ x894 x1 x1124 n ([] : List Int) 0 hx1124) ?_
      rintro _ _ ⟨rfl, rfl⟩
      refine blockS_y ?_
      refine thenS_n ?_
      refine W_seq ?_
      refine W_region ?_
      refine WO_step 2 [0, 1] [4] True ⟨[(4, .one (.e (.sl 1 0 x1124.length)))], [.row .acc x1 false, .row .int x1124 true]⟩ (by kernel_rfl) trivial ?_
      refine WO_nil rfl ?_
      refine thenS_n ?_
      refine W_ret ?_
      cases h
      exact ⟨[0, 1], True, by kernel_rfl, trivial⟩

/- laws.FnAbortSetMore -/
def laws_FnAbortSetMore_L1 (x80 : List Int) (x102 : List Int) (x1 : List Int) : Nat → Int → Option ((Unit) ⊕ (Unit))
| 0, _ => none
| n + 1, i119 =>
 iteO (decide (i119 < ((x102.length : Nat) : Int)))
 (guardO (0 ≤ i119 ∧ i119 < ((x102.length : Nat) : Int)) <|
 bindO (laws_isIn n x80 (x102.getD i119.toNat 0)) fun b142 =>
 iteO (!b142)
 (some (.inl ()))
 (laws_FnAbortSetMore_L1 x80 x102 x1 n (w64 (i119 + 1))))
 (some (.inr ()))

theorem laws_FnAbortSetMore_L1_ok (w : World) (X : Nat → Prop) (θ : List Loc) (x80 : List Int) (x102 : List Int) (x1 : List Int) (v : (Unit) ⊕ (Unit)) : ∀ (n : Nat) (i119 : Int), laws_FnAbortSetMore_L1 x80 x102 x1 n i119 = some v → WL EE ⟨w, X, θ, 63, 1⟩ (subC [1, 1, 1, 1, 1, 1, 0, 1, 4, 4] (bodyC Try.f9)) (fun (e : Exit) (s : St) => (match v with | (.inl _) => e = .ret ∧ s = ⟨[(2, B false)], [.row .u8 x1 false]⟩ | (.inr _) => e = .exit 0 ∧ s = ⟨[(6, .one (.e (.sl 1 0 x102.length)))], [.row .u8 x1 false, .row .int x102 true]⟩ : Prop)) ⟨[(5, .one (.e (.sl 1 0 x80.length))), (6, .one (.e (.sl 2 0 x102.length))), (7, I i119)], [.row .u8 x1 false, .row .int x80 true, .row .int x102 true]⟩ := by
  intro n
  induction n with
  | zero => intro _ h; exact none_e h
  | succ n ih =>
    intro i119 h
    rw [laws_FnAbortSetMore_L1] at h
    refine WL_round ?_
    refine W_seq ?_
    refine W_seq ?_
    refine W_region ?_
    refine WO_step 4 [0, 1, 2] [5, 6, 7, 50] (True ∧ (True ∧ True)) ⟨[(5, .one (.e (.sl 1 0 x80.length))), (6, .one (.e (.sl 2 0 x102.length))), (7, I i119), (50, B (decide (i119 < ((x102.length : Nat) : Int))))], [.row .u8 x1 false, .row .int x80 true, .row .int x102 true]⟩ (by kernel_rfl) ⟨trivial, trivial, trivial⟩ ?_
    refine WO_nil rfl ?_
    refine thenS_n ?_
    refine iteO_e h (fun hb135 h => W_true rfl hb135 ?_) (fun hb135 h => W_false rfl hb135 ?_)
    · refine W_sub [0, 1, 2] [5, 6, 7] (st' := ⟨[(5, .one (.e (.sl 1 0 x80.length))), (6, .one (.e (.sl 2 0 x102.length))), (7, I i119)], [.row .u8 x1 false, .row .int x80 true, .row .int x102 true]⟩) (by kernel_rfl) ?_
      refine W_skip ?_
      refine thenS_n ?_
      refine W_seq ?_
      refine W_block ?_
      refine W_seq ?_
      refine W_region ?_
      refine guardO_e h (fun hg141 h => ?_)
      refine WO_step 5 [0, 1, 2] [5, 6, 7, 53, 57] ((0 ≤ i119 ∧ i119 < ((x102.length : Nat) : Int)) ∧ (True ∧ True)) ⟨[(5, .one (.e (.sl 1 0 x80.length))), (6, .one (.e (.sl 2 0 x102.length))), (7, I i119), (53, .one (.e (.sl 1 0 x80.length))), (57, I (x102.getD i119.toNat 0))], [.row .u8 x1 false, .row .int x80 true, .row .int x102 true]⟩ (by kernel_rfl) ⟨hg141, trivial, trivial⟩ ?_
      refine bindO_e h (fun b142 hc143 h => ?_)
      refine WO_call [.ro 1] Try.f20 rfl rfl rfl (by kernel_rfl) rfl rfl (by kernel_rfl) (laws_isIn_ok n x80 (x102.getD i119.toNat 0) b142 hc143) (And.intro (And.intro rfl rfl) (trivial)) rfl ?_
      refine WO_step 1 [0, 1, 2] [5, 6, 7, 59] True ⟨[(5, .one (.e (.sl 1 0 x80.length))), (6, .one (.e (.sl 2 0 x102.length))), (7, I i119), (59, B (!b142))], [.row .u8 x1 false, .row .int x80 true, .row .int x102 true]⟩ (by kernel_rfl) trivial ?_
      refine WO_nil rfl ?_
      refine thenS_n ?_
      refine iteO_e h (fun hb145 h => W_true rfl hb145 ?_) (fun hb145 h => W_false rfl hb145 ?_)
      · refine W_seq ?_
        refine W_region ?_
        refine WO_step 1 [0] [2] True ⟨[(2, B false)], [.row .u8 x1 false]⟩ (by kernel_rfl) trivial ?_
        refine WO_nil rfl ?_
        refine thenS_n ?_
        refine W_ret ?_
        refine blockS_r ?_
        refine thenS_r ?_
        refine thenS_r ?_
        cases h
        exact And.intro rfl rfl
      · refine W_sub [0, 1, 2] [5, 6, 7] (st' := ⟨[(5, .one (.e (.sl 1 0 x80.length))), (6, .one (.e (.sl 2 0 x102.length))), (7, I i119)], [.row .u8 x1 false, .row .int x80 true, .row .int x102 true]⟩) (by kernel_rfl) ?_
        refine W_skip ?_
        refine blockS_n ?_
        refine thenS_n ?_
        refine W_region ?_
        refine WO_step 3 [0, 1, 2] [5, 6, 7] (True ∧ True) ⟨[(5, .one (.e (.sl 1 0 x80.length))), (6, .one (.e (.sl 2 0 x102.length))), (7, I (w64 (i119 + 1)))], [.row .u8 x1 false, .row .int x80 true, .row .int x102 true]⟩ (by kernel_rfl) ⟨trivial, trivial⟩ ?_
        refine WO_nil rfl ?_
        refine thenS_n ?_
        exact ih _ h
    · refine W_sub [0, 2] [6] (st' := ⟨[(6, .one (.e (.sl 1 0 x102.length)))], [.row .u8 x1 false, .row .int x102 true]⟩) (by kernel_rfl) ?_
      refine W_exit ?_
      refine thenS_e ?_
      refine thenS_e ?_
      cases h
      exact And.intro rfl rfl

def laws_FnAbortSetMore (n : Nat) (x1 : List Int) : Option (Bool) :=
 iteO (decide (1048576 < ((x1.length : Nat) : Int)))
 (some true)
 (bindO (spec_DrawAbortSet n x1) fun (x77, i78) =>
 bindO (impl_AbortSet n x77 i78) fun x80 =>
 bindO (spec_AbortSet n x77 i78) fun x82 =>
 bindO (laws_equalInts n x80 x82) fun b84 =>
 iteO ((!b84) || ((decide (((x80.length : Nat) : Int) = 0)) || (decide (((x77.length : Nat) : Int) = 0))))
 (bindO (spec_AbortSet n x77 i78) fun x97 =>
 bindO (laws_equalInts n x80 x97) fun b99 =>
 some b99)
 (guardO (0 ≤ (w64 (((x77.length : Nat) : Int) - 1)) ∧ (w64 (((x77.length : Nat) : Int) - 1)) ≤ ((x77.length : Nat) : Int)) <|
 bindO (impl_AbortSet n ((x77.drop 0).take ((w64 (((x77.length : Nat) : Int) - 1)).toNat)) i78) fun x102 =>
 bindO (laws_FnAbortSetMore_L1 x80 x102 x1 n 0) fun v146 =>
 match v146 with
 | (.inl _) => (some false)
 | (.inr _) => (some (decide (1 ≤ ((x102.length : Nat) : Int))))
))

theorem laws_FnAbortSetMore_ok (n : Nat) (x1 : List Int) (b74 : Bool) (h : laws_FnAbortSetMore n x1 = some b74) : FOk EE 9 [.one (.e (.sl 0 0 x1.length))] [.row .u8 x1 false] (B b74) [.row .u8 x1 false] := by
  unfold laws_FnAbortSetMore at h
  refine FOk_of_W 63 1 Try.func9 rfl rfl (Nat.le_of_ble_eq_true rfl) rfl (fun w X θ => ?_)
  refine W_seq ?_
  refine W_region ?_
  refine WO_step 1 [0] [0] True ⟨[(0, .one (.e (.sl 0 0 x1.length)))], [.row .u8 x1 false]⟩ (by kernel_rfl) trivial ?_
  refine WO_nil rfl ?_
  refine thenS_n ?_
  refine W_seq ?_
  refine W_seq ?_
  refine W_region ?_
  refine WO_step 3 [0] [0, 10] (True ∧ (True ∧ True)) ⟨[(0, .one (.e (.sl 0 0 x1.length))), (10, B (decide (1048576 < ((x1.length : Nat) : Int))))], [.row .u8 x1 false]⟩ (by kernel_rfl) ⟨trivial, trivial, trivial⟩ ?_
  refine WO_nil rfl ?_
  refine thenS_n ?_
  refine iteO_e h (fun hb76 h => W_true rfl hb76 ?_) (fun hb76 h => W_false rfl hb76 ?_)
  · refine W_seq ?_
    refine W_region ?_
    refine WO_step 1 [0] [2] True ⟨[(2, B true)], [.row .u8 x1 false]⟩ (by kernel_rfl) trivial ?_
    refine WO_nil rfl ?_
    refine thenS_n ?_
    refine W_ret ?_
    refine thenS_r ?_
    cases h
    exact ⟨[0], True, by kernel_rfl, trivial⟩
  · refine W_sub [0] [0] (st' := ⟨[(0, .one (.e (.sl 0 0 x1.length)))], [.row .u8 x1 false]⟩) (by kernel_rfl) ?_
    refine W_skip ?_
    refine thenS_n ?_
    refine W_seq ?_
    refine W_region ?_
    refine WO_step 1 [0] [12] True ⟨[(12, .one (.e (.sl 0 0 x1.length)))], [.row .u8 x1 false]⟩ (by kernel_rfl) trivial ?_
    refine bindO_e h (fun v147 hc79 h => ?_)
    obtain ⟨x77, i78⟩ := v147
    refine WO_call [.ro 0] Try.f31 rfl rfl rfl (by kernel_rfl) rfl rfl (by kernel_rfl) (spec_DrawAbortSet_ok n x1 x77 i78 hc79) (And.intro (And.intro rfl rfl) (trivial)) rfl ?_
    refine WO_step 5 [0, 1] [3, 4] True ⟨[(3, .one (.e (.sl 1 0 x77.length))), (4, I i78)], [.row .u8 x1 false, .row .acc x77 true]⟩ (by kernel_rfl) trivial ?_
    refine WO_nil rfl ?_
    refine thenS_n ?_
    refine W_seq ?_
    refine W_region ?_
    refine WO_step 2 [0, 1] [3, 4, 16, 17] True ⟨[(3, .one (.e (.sl 1 0 x77.length))), (4, I i78), (16, .one (.e (.sl 1 0 x77.length))), (17, I i78)], [.row .u8 x1 false, .row .acc x77 true]⟩ (by kernel_rfl) trivial ?_
    refine bindO_e h (fun x80 hc81 h => ?_)
    refine WO_call [.ro 1] Try.f32 rfl rfl rfl (by kernel_rfl) rfl rfl (by kernel_rfl) (impl_AbortSet_ok n x77 i78 x80 hc81) (And.intro (And.intro rfl rfl) (trivial)) rfl ?_
    refine WO_step 1 [0, 1, 2] [3, 4, 5] True ⟨[(3, .one (.e (.sl 1 0 x77.length))), (4, I i78), (5, .one (.e (.sl 2 0 x80.length)))], [.row .u8 x1 false, .row .acc x77 true, .row .int x80 true]⟩ (by kernel_rfl) trivial ?_
    refine WO_nil rfl ?_
    refine thenS_n ?_
    refine W_seq ?_
    refine W_seq ?_
    refine W_region ?_
    refine WO_step 3 [0, 1, 2] [3, 4, 5, 19, 20, 21] True ⟨[(3, .one (.e (.sl 1 0 x77.length))), (4, I i78), (5, .one (.e (.sl 2 0 x80.length))), (19, .one (.e (.sl 2 0 x80.length))), (20, .one (.e (.sl 1 0 x77.length))), (21, I i78)], [.row .u8 x1 false, .row .acc x77 true, .row .int x80 true]⟩ (by kernel_rfl) trivial ?_
    refine bindO_e h (fun x82 hc83 h => ?_)
    refine WO_call [.ro 1] Try.f33 rfl rfl rfl (by kernel_rfl) rfl rfl (by kernel_rfl) (spec_AbortSet_ok n x77 i78 x82 hc83) (And.intro (And.intro rfl rfl) (trivial)) rfl ?_
    refine WO_sub [0, 1, 2, 3] [3, 4, 5, 19, 22] (st' := ⟨[(3, .one (.e (.sl 1 0 x77.length))), (4, I i78), (5, .one (.e (.sl 2 0 x80.length))), (19, .one (.e (.sl 2 0 x80.length))), (22, .one (.e (.sl 3 0 x82.length)))], [.row .u8 x1 false, .row .acc x77 true, .row .int x80 true, .row .int x82 true]⟩) (by kernel_rfl) ?_
    refine bindO_e h (fun b84 hc85 h => ?_)
    refine WO_call [.ro 2, .ro 3] Try.f17 rfl rfl rfl (by kernel_rfl) rfl rfl (by kernel_rfl) (laws_equalInts_ok n x80 x82 b84 hc85) (And.intro (And.intro rfl rfl) (And.intro (And.intro rfl rfl) (trivial))) rfl ?_
    refine WO_step 2 [0, 1, 2] [3, 4, 5, 25] True ⟨[(3, .one (.e (.sl 1 0 x77.length))), (4, I i78), (5, .one (.e (.sl 2 0 x80.length))), (25, B (!b84))], [.row .u8 x1 false, .row .acc x77 true, .row .int x80 true]⟩ (by kernel_rfl) trivial ?_
    refine WO_thru ⟨[(3, .one (.e (.sl 1 0 x77.length))), (4, I i78), (5, .one (.e (.sl 2 0 x80.length))), (34, B ((!b84) || ((decide (((x80.length : Nat) : Int) = 0)) || (decide (((x77.length : Nat) : Int) = 0)))))], [.row .u8 x1 false, .row .acc x77 true, .row .int x80 true]⟩ ?_ ?_
    · refine WO_if 25 rfl (fun hb89 => ?_) (fun hb89 => ?_)
      · refine WO_step 9 [0, 1, 2] [3, 4, 5, 34] True ⟨[(3, .one (.e (.sl 1 0 x77.length))), (4, I i78), (5, .one (.e (.sl 2 0 x80.length))), (34, B true)], [.row .u8 x1 false, .row .acc x77 true, .row .int x80 true]⟩ (by kernel_rfl) trivial ?_
        exact WO_nil rfl ⟨rfl, by first | rfl | (rw [hb89]; first | done | rfl)⟩
      · refine WO_step 5 [0, 1, 2] [3, 4, 5, 30] (True ∧ (True ∧ True)) ⟨[(3, .one (.e (.sl 1 0 x77.length))), (4, I i78), (5, .one (.e (.sl 2 0 x80.length))), (30, B (decide (((x80.length : Nat) : Int) = 0)))], [.row .u8 x1 false, .row .acc x77 true, .row .int x80 true]⟩ (by kernel_rfl) ⟨trivial, trivial, trivial⟩ ?_
        refine WO_if 30 rfl (fun hb90 => ?_) (fun hb90 => ?_)
        · refine WO_step 4 [0, 1, 2] [3, 4, 5, 34] True ⟨[(3, .one (.e (.sl 1 0 x77.length))), (4, I i78), (5, .one (.e (.sl 2 0 x80.length))), (34, B true)], [.row .u8 x1 false, .row .acc x77 true, .row .int x80 true]⟩ (by kernel_rfl) trivial ?_
          exact WO_nil rfl ⟨rfl, by first | rfl | (simp only [hb89, hb90]; first | done | rfl)⟩
        · refine WO_step 4 [0, 1, 2] [3, 4, 5, 34] (True ∧ (True ∧ True)) ⟨[(3, .one (.e (.sl 1 0 x77.length))), (4, I i78), (5, .one (.e (.sl 2 0 x80.length))), (34, B (decide (((x77.length : Nat) : Int) = 0)))], [.row .u8 x1 false, .row .acc x77 true, .row .int x80 true]⟩ (by kernel_rfl) ⟨trivial, trivial, trivial⟩ ?_
          exact WO_nil rfl ⟨rfl, by first | rfl | (simp only [hb89, hb90]; first | done | rfl)⟩
    · refine thenS_n ?_
      refine iteO_e h (fun hb96 h => W_true rfl hb96 ?_) (fun hb96 h => W_false rfl hb96 ?_)
      · refine W_seq ?_
        refine W_region ?_
        refine WO_step 3 [0, 2, 1] [35, 36, 37] True ⟨[(35, .one (.e (.sl 1 0 x80.length))), (36, .one (.e (.sl 2 0 x77.length))), (37, I i78)], [.row .u8 x1 false, .row .int x80 true, .row .acc x77 true]⟩ (by kernel_rfl) trivial ?_
        refine bindO_e h (fun x97 hc98 h => ?_)
        refine WO_call [.ro 2] Try.f33 rfl rfl rfl (by kernel_rfl) rfl rfl (by kernel_rfl) (spec_AbortSet_ok n x77 i78 x97 hc98) (And.intro (And.intro rfl rfl) (trivial)) rfl ?_
        refine WO_sub [0, 1, 3] [35, 38] (st' := ⟨[(35, .one (.e (.sl 1 0 x80.length))), (38, .one (.e (.sl 2 0 x97.length)))], [.row .u8 x1 false, .row .int x80 true, .row .int x97 true]⟩) (by kernel_rfl) ?_
        refine bindO_e h (fun b99 hc100 h => ?_)
        refine WO_call [.ro 1, .ro 2] Try.f17 rfl rfl rfl (by kernel_rfl) rfl rfl (by kernel_rfl) (laws_equalInts_ok n x80 x97 b99 hc100) (And.intro (And.intro rfl rfl) (And.intro (And.intro rfl rfl) (trivial))) rfl ?_
        refine WO_step 1 [0] [2] True ⟨[(2, B b99)], [.row .u8 x1 false]⟩ (by kernel_rfl) trivial ?_
        refine WO_nil rfl ?_
        refine thenS_n ?_
        refine W_ret ?_
        refine thenS_r ?_
        cases h
        exact ⟨[0], True, by kernel_rfl, trivial⟩
      · refine W_sub [0, 1, 2] [3, 4, 5] (st' := ⟨[(3, .one (.e (.sl 1 0 x77.length))), (4, I i78), (5, .one (.e (.sl 2 0 x80.length)))], [.row .u8 x1 false, .row .acc x77 true, .row .int x80 true]⟩) (by kernel_rfl) ?_
        refine W_skip ?_
        refine thenS_n ?_
        refine W_seq ?_
        refine W_region ?_
        refine guardO_e h (fun hg101 h => ?_)
        refine WO_step 6 [0, 2, 1] [5, 44, 45] (True ∧ (True ∧ ((0 ≤ (w64 (((x77.length : Nat) : Int) - 1)) ∧ (w64 (((x77.length : Nat) : Int) - 1)) ≤ ((x77.length : Nat) : Int)) ∧ True))) ⟨[(5, .one (.e (.sl 1 0 x80.length))), (44, .one (.e (.sl 2 0 ((w64 (((x77.length : Nat) : Int) - 1)).toNat)))), (45, I i78)], [.row .u8 x1 false, .row .int x80 true, .row .acc x77 true]⟩ (by kernel_rfl) ⟨trivial, trivial, hg101, trivial⟩ ?_
        refine bindO_e h (fun x102 hc103 h => ?_)
        refine WO_call [.view 0] Try.f32 rfl rfl rfl (by kernel_rfl) rfl rfl (by kernel_rfl) (impl_AbortSet_ok n ((x77.drop 0).take ((w64 (((x77.length : Nat) : Int) - 1)).toNat)) i78 x102 hc103) (trivial) rfl ?_
        refine WO_step 1 [0, 1, 3] [5, 6] True ⟨[(5, .one (.e (.sl 1 0 x80.length))), (6, .one (.e (.sl 2 0 x102.length)))], [.row .u8 x1 false, .row .int x80 true, .row .int x102 true]⟩ (by kernel_rfl) trivial ?_
        refine WO_nil rfl ?_
        refine thenS_n ?_
        refine W_seq ?_
        refine W_seq ?_
        refine W_region ?_
        refine WO_step 1 [0, 1, 2] [5, 6, 7] True ⟨[(5, .one (.e (.sl 1 0 x80.length))), (6, .one (.e (.sl 2 0 x102.length))), (7, I 0)], [.row .u8 x1 false, .row .int x80 true, .row .int x102 true]⟩ (by kernel_rfl) trivial ?_
        refine WO_nil rfl ?_
        refine thenS_n ?_
        refine W_block ?_
        refine W_loop ?_
        refine bindO_e h (fun v146 hv146 h => ?_)
        refine WL_cut (laws_FnAbortSetMore_L1_ok w X θ x80 x102 x1 v146 n 0 hv146) ?_
        rcases v146 with _ | _
        · rintro _ _ ⟨rfl, rfl⟩
          refine blockS_r ?_
          refine thenS_r ?_
          cases h
          exact ⟨[0], True, by kernel_rfl, trivial⟩
        · rintro _ _ ⟨rfl, rfl⟩
          refine blockS_y ?_
          refine thenS_n ?_
          refine W_seq ?_
          refine W_region ?_
          refine WO_step 4 [0] [2] (True ∧ (True ∧ True)) ⟨[(2, B (decide (1 ≤ ((x102.length : Nat) : Int))))], [.row .u8 x1 false]⟩ (by kernel_rfl) ⟨trivial, trivial, trivial⟩ ?_
          refine WO_nil rfl ?_
          refine thenS_n ?_
          refine W_ret ?_
          cases h
          exact ⟨[0], True, by kernel_rfl, trivial⟩

/- laws.toIntS -/
def laws_toIntS_L1 (x1 : List Int) : Nat → (List Int) → Int → Option ((List Int))
| 0, _, _ => none
| n + 1, x47, i48 =>
 iteO (decide (i48 < ((x1.length : Nat) : Int)))
 (guardO (0 ≤ i48 ∧ i48 < ((x1.length : Nat) : Int)) <|
 guardO (0 ≤ i48 ∧ i48 < ((x47.length : Nat) : Int)) <|
 laws_toIntS_L1 x1 n (x47.set i48.toNat (x1.getD i48.toNat 0)) (w64 (i48 + 1)))
 (some x47)

theorem laws_toIntS_L1_ok (w : World) (X : Nat → Prop) (θ : List Loc) (x1 : List Int) (x57 : (List Int)) : ∀ (n : Nat) (x47 : List Int) (i48 : Int), laws_toIntS_L1 x1 n x47 i48 = some x57 → WL EE ⟨w, X, θ, 22, 1⟩ (subC [1, 1, 0, 1, 4, 4] (bodyC Try.f34)) (fun (e : Exit) (s : St) => e = .exit 0 ∧ s = ⟨[(3, .one (.e (.sl 1 0 x57.length)))], [.row .int x1 false, .row .int x57 true]⟩) ⟨[(0, .one (.e (.sl 0 0 x1.length))), (3, .one (.e (.sl 1 0 x47.length))), (4, I i48)], [.row .int x1 false, .row .int x47 true]⟩ := by
  intro n
  induction n with
  | zero => intro _ _ h; exact none_e h
  | succ n ih =>
    intro x47 i48 h
    rw [laws_toIntS_L1] at h
    refine WL_round ?_
    refine W_seq ?_
    refine W_seq ?_
    refine W_region ?_
    refine WO_step 4 [0, 1] [0, 3, 4, 11] (True ∧ (True ∧ True)) ⟨[(0, .one (.e (.sl 0 0 x1.length))), (3, .one (.e (.sl 1 0 x47.length))), (4, I i48), (11, B (decide (i48 < ((x1.length : Nat) : Int))))], [.row .int x1 false, .row .int x47 true]⟩ (by kernel_rfl) ⟨trivial, trivial, trivial⟩ ?_
    refine WO_nil rfl ?_
    refine thenS_n ?_
    refine iteO_e h (fun hb60 h => W_true rfl hb60 ?_) (fun hb60 h => W_false rfl hb60 ?_)
    · refine W_sub [0, 1] [0, 3, 4] (st' := ⟨[(0, .one (.e (.sl 0 0 x1.length))), (3, .one (.e (.sl 1 0 x47.length))), (4, I i48)], [.row .int x1 false, .row .int x47 true]⟩) (by kernel_rfl) ?_
      refine W_skip ?_
      refine thenS_n ?_
      refine W_seq ?_
      refine W_block ?_
      refine W_region ?_
      refine guardO_e h (fun hg63 h => ?_)
      refine guardO_e h (fun hg64 h => ?_)
      refine WO_step 8 [0, 1] [0, 3, 4] ((0 ≤ i48 ∧ i48 < ((x1.length : Nat) : Int)) ∧ (True ∧ ((0 ≤ i48 ∧ i48 < ((x47.length : Nat) : Int)) ∧ (True ∧ True)))) ⟨[(0, .one (.e (.sl 0 0 x1.length))), (3, .one (.e (.sl 1 0 x47.length))), (4, I i48)], [.row .int x1 false, .row .int (x47.set i48.toNat (x1.getD i48.toNat 0)) true]⟩ (by kernel_rfl) ⟨hg63, trivial, hg64, trivial, trivial⟩ ?_
      refine WO_eq (st' := ⟨[(0, .one (.e (.sl 0 0 x1.length))), (3, .one (.e (.sl 1 0 ((x47.set i48.toNat (x1.getD i48.toNat 0)).length)))), (4, I i48)], [.row .int x1 false, .row .int (x47.set i48.toNat (x1.getD i48.toNat 0)) true]⟩) (by simp only [List.length_set]) ?_
      refine WO_nil rfl ?_
      refine blockS_n ?_
      refine thenS_n ?_
      refine W_region ?_
      refine WO_step 3 [0, 1] [0, 3, 4] (True ∧ True) ⟨[(0, .one (.e (.sl 0 0 x1.length))), (3, .one (.e (.sl 1 0 ((x47.set i48.toNat (x1.getD i48.toNat 0)).length)))), (4, I (w64 (i48 + 1)))], [.row .int x1 false, .row .int (x47.set i48.toNat (x1.getD i48.toNat 0)) true]⟩ (by kernel_rfl) ⟨trivial, trivial⟩ ?_
      refine WO_nil rfl ?_
      refine thenS_n ?_
      exact ih _ _ h
    · refine W_sub [0, 1] [3] (st' := ⟨[(3, .one (.e (.sl 1 0 x47.length)))], [.row .int x1 false, .row .int x47 true]⟩) (by kernel_rfl) ?_
      refine W_exit ?_
      refine thenS_e ?_
      refine thenS_e ?_
      cases h
      exact And.intro rfl rfl

def laws_toIntS (n : Nat) (x1 : List Int) : Option ((List Int)) :=
 guardO ((((x1.length : Nat) : Int) : Int) = ((x1.length : Nat) : Int) ∧ 0 ≤ ((x1.length : Nat) : Int) ∧ ((x1.length : Nat) : Int) ≤ 1099511627776) <|
 bindO (laws_toIntS_L1 x1 n (List.replicate (((x1.length : Nat) : Int).toNat) (0 : Int)) 0) fun x57 =>
 some x57

theorem laws_toIntS_ok (n : Nat) (x1 : List Int) (x33 : List Int) (h : laws_toIntS n x1 = some x33) : FOk EE 34 [.one (.e (.sl 0 0 x1.length))] [.row .int x1 false] (.one (.e (.sl 1 0 x33.length))) [.row .int x1 false, .row .int x33 true] := by
  unfold laws_toIntS at h
  refine FOk_of_W 22 1 Try.func34 rfl rfl (Nat.le_of_ble_eq_true rfl) rfl (fun w X θ => ?_)
  refine W_seq ?_
  refine W_region ?_
  refine WO_step 1 [0] [0] True ⟨[(0, .one (.e (.sl 0 0 x1.length)))], [.row .int x1 false]⟩ (by kernel_rfl) trivial ?_
  refine WO_nil rfl ?_
  refine thenS_n ?_
  refine W_seq ?_
  refine W_region ?_
  refine guardO_e h (fun hg34 h => ?_)
  refine WO_step 4 [0, 1] [0, 3] (True ∧ (((((x1.length : Nat) : Int) : Int) = ((x1.length : Nat) : Int) ∧ 0 ≤ ((x1.length : Nat) : Int) ∧ ((x1.length : Nat) : Int) ≤ 1099511627776) ∧ True)) ⟨[(0, .one (.e (.sl 0 0 x1.length))), (3, .one (.e (.sl 1 0 ((List.replicate (((x1.length : Nat) : Int).toNat) (0 : Int)).length))))], [.row .int x1 false, .row .int (List.replicate (((x1.length : Nat) : Int).toNat) (0 : Int)) true]⟩ (by kernel_rfl) ⟨trivial, hg34, trivial⟩ ?_
  refine WO_nil rfl ?_
  refine thenS_n ?_
  refine W_seq ?_
  refine W_seq ?_
  refine W_region ?_
  refine WO_step 1 [0, 1] [0, 3, 4] True ⟨[(0, .one (.e (.sl 0 0 x1.length))), (3, .one (.e (.sl 1 0 ((List.replicate (((x1.length : Nat) : Int).toNat) (0 : Int)).length)))), (4, I 0)], [.row .int x1 false, .row .int (List.replicate (((x1.length : Nat) : Int).toNat) (0 : Int)) true]⟩ (by kernel_rfl) trivial ?_
  refine WO_nil rfl ?_
  refine thenS_n ?_
  refine W_block ?_
  refine W_loop ?_
  refine bindO_e h (fun x57 hx57 h => ?_)
  refine WL_cut (laws_toIntS_L1_ok w X θ x1 x57 n (List.replicate (((x1.length : Nat) : Int).toNat) (0 : Int)) 0 hx57) ?_
  rintro _ _ ⟨rfl, rfl⟩
  refine blockS_y ?_
  refine thenS_n ?_
  refine W_seq ?_
  refine W_region ?_
  refine WO_step 2 [0, 1] [2] True ⟨[(2, .one (.e (.sl 1 0 x57.length)))], [.row .int x1 false, .row .int x57 true]⟩ (by kernel_rfl) trivial ?_
  refine WO_nil rfl ?_
  refine thenS_n ?_
  refine W_ret ?_
  cases h
  exact ⟨[0, 1], True, by kernel_rfl, trivial⟩

/- laws.FnExactMayCommit -/
def laws_FnExactMayCommit (n : Nat) (x1 : List Acc) (i2 : Int) (x3 : List Int) : Option (Bool) :=
 iteO (decide (1048576 < ((x3.length : Nat) : Int)))
 (some true)
 (bindO (laws_szAccessS x1 1048576) fun i39 =>
 iteO (decide (i39 < 0))
 (some true)
 (bindO (laws_toAccessS n x1) fun x43 =>
 bindO (laws_toIntS n x3) fun x45 =>
 bindO (spec_MayCommit n x43 i2 x45) fun b47 =>
 bindO (laws_toAccessS n x1) fun x49 =>
 bindO (laws_toIntS n x3) fun x51 =>
 bindO (impl_MayCommit n x49 i2 x51) fun b53 =>
 iteO (!(b53 == b47))
 (some false)
 (bindO (laws_toAccessS n x1) fun x57 =>
 bindO (laws_eqAccessS n x49 x57) fun b59 =>
 iteO (!b59)
 (some false)
 (bindO (laws_toIntS n x3) fun x63 =>
 bindO (laws_eqIntS n x51 x63) fun b65 =>
 iteO (!b65)
 (some false)
 (some true)))))

theorem laws_FnExactMayCommit_ok (n : Nat) (x1 : List Acc) (i2 : Int) (x3 : List Int) (b36 : Bool) (h : laws_FnExactMayCommit n x1 i2 x3 = some b36) : FOk EE 10 [.one (.e (.sl 0 0 x1.length)), I i2, .one (.e (.sl 1 0 x3.length))] [.row .acc x1 false, .row .int x3 false] (B b36) [.row .acc x1 false, .row .int x3 false] := by
  unfold laws_FnExactMayCommit at h
  refine FOk_of_W 47 2 Try.func10 rfl rfl (Nat.le_of_ble_eq_true rfl) rfl (fun w X θ => ?_)
  refine W_seq ?_
  refine W_region ?_
  refine WO_step 1 [0, 1] [0, 1, 2] True ⟨[(0, .one (.e (.sl 0 0 x1.length))), (1, I i2), (2, .one (.e (.sl 1 0 x3.length)))], [.row .acc x1 false, .row .int x3 false]⟩ (by kernel_rfl) trivial ?_
  refine WO_nil rfl ?_
  refine thenS_n ?_
  refine W_seq ?_
  refine W_seq ?_
  refine W_region ?_
  refine WO_step 3 [0, 1] [0, 1, 2, 14] (True ∧ (True ∧ True)) ⟨[(0, .one (.e (.sl 0 0 x1.length))), (1, I i2), (2, .one (.e (.sl 1 0 x3.length))), (14, B (decide (1048576 < ((x3.length : Nat) : Int))))], [.row .acc x1 false, .row .int x3 false]⟩ (by kernel_rfl) ⟨trivial, trivial, trivial⟩ ?_
  refine WO_nil rfl ?_
  refine thenS_n ?_
  refine iteO_e h (fun hb38 h => W_true rfl hb38 ?_) (fun hb38 h => W_false rfl hb38 ?_)
  · refine W_seq ?_
    refine W_region ?_
    refine WO_step 1 [0, 1] [6] True ⟨[(6, B true)], [.row .acc x1 false, .row .int x3 false]⟩ (by kernel_rfl) trivial ?_
    refine WO_nil rfl ?_
    refine thenS_n ?_
    refine W_ret ?_
    refine thenS_r ?_
    cases h
    exact ⟨[0, 1], True, by kernel_rfl, trivial⟩
  · refine W_sub [0, 1] [0, 1, 2] (st' := ⟨[(0, .one (.e (.sl 0 0 x1.length))), (1, I i2), (2, .one (.e (.sl 1 0 x3.length)))], [.row .acc x1 false, .row .int x3 false]⟩) (by kernel_rfl) ?_
    refine W_skip ?_
    refine thenS_n ?_
    refine W_seq ?_
    refine W_region ?_
    refine WO_step 1 [0, 1] [0, 1, 2, 7] True ⟨[(0, .one (.e (.sl 0 0 x1.length))), (1, I i2), (2, .one (.e (.sl 1 0 x3.length))), (7, I 1048576)], [.row .acc x1 false, .row .int x3 false]⟩ (by kernel_rfl) trivial ?_
    refine WO_nil rfl ?_
    refine thenS_n ?_
    refine W_seq ?_
    refine W_region ?_
    refine WO_step 2 [0, 1] [0, 1, 2, 15, 16] True ⟨[(0, .one (.e (.sl 0 0 x1.length))), (1, I i2), (2, .one (.e (.sl 1 0 x3.length))), (15, .one (.e (.sl 0 0 x1.length))), (16, I 1048576)], [.row .acc x1 false, .row .int x3 false]⟩ (by kernel_rfl) trivial ?_
    refine bindO_e h (fun i39 hc40 h => ?_)
    refine WO_call [.ro 0] Try.f24 rfl rfl rfl (by kernel_rfl) rfl rfl (by kernel_rfl) (laws_szAccessS_ok x1 1048576 i39 hc40) (And.intro (And.intro rfl rfl) (trivial)) rfl ?_
    refine WO_step 1 [0, 1] [0, 1, 2, 7] True ⟨[(0, .one (.e (.sl 0 0 x1.length))), (1, I i2), (2, .one (.e (.sl 1 0 x3.length))), (7, I i39)], [.row .acc x1 false, .row .int x3 false]⟩ (by kernel_rfl) trivial ?_
    refine WO_nil rfl ?_
    refine thenS_n ?_
    refine W_seq ?_
    refine W_seq ?_
    refine W_region ?_
    refine WO_step 2 [0, 1] [0, 1, 2, 19] (True ∧ True) ⟨[(0, .one (.e (.sl 0 0 x1.length))), (1, I i2), (2, .one (.e (.sl 1 0 x3.length))), (19, B (decide (i39 < 0)))], [.row .acc x1 false, .row .int x3 false]⟩ (by kernel_rfl) ⟨trivial, trivial⟩ ?_
    refine WO_nil rfl ?_
    refine thenS_n ?_
    refine iteO_e h (fun hb42 h => W_true rfl hb42 ?_) (fun hb42 h => W_false rfl hb42 ?_)
    · refine W_seq ?_
      refine W_region ?_
      refine WO_step 1 [0, 1] [6] True ⟨[(6, B true)], [.row .acc x1 false, .row .int x3 false]⟩ (by kernel_rfl) trivial ?_
      refine WO_nil rfl ?_
      refine thenS_n ?_
      refine W_ret ?_
      refine thenS_r ?_
      cases h
      exact ⟨[0, 1], True, by kernel_rfl, trivial⟩
    · refine W_sub [0, 1] [0, 1, 2] (st' := ⟨[(0, .one (.e (.sl 0 0 x1.length))), (1, I i2), (2, .one (.e (.sl 1 0 x3.length)))], [.row .acc x1 false, .row .int x3 false]⟩) (by kernel_rfl) ?_
      refine W_skip ?_
      refine thenS_n ?_
      refine W_seq ?_
      refine W_region ?_
      refine WO_step 1 [0, 1] [0, 1, 2, 20] True ⟨[(0, .one (.e (.sl 0 0 x1.length))), (1, I i2), (2, .one (.e (.sl 1 0 x3.length))), (20, .one (.e (.sl 0 0 x1.length)))], [.row .acc x1 false, .row .int x3 false]⟩ (by kernel_rfl) trivial ?_
      refine bindO_e h (fun x43 hc44 h => ?_)
      refine WO_call [.ro 0] Try.f25 rfl rfl rfl (by kernel_rfl) rfl rfl (by kernel_rfl) (laws_toAccessS_ok n x1 x43 hc44) (And.intro (And.intro rfl rfl) (trivial)) rfl ?_
      refine WO_step 2 [0, 1, 2] [0, 1, 2, 21, 22, 23] True ⟨[(0, .one (.e (.sl 0 0 x1.length))), (1, I i2), (2, .one (.e (.sl 1 0 x3.length))), (21, .one (.e (.sl 2 0 x43.length))), (22, I i2), (23, .one (.e (.sl 1 0 x3.length)))], [.row .acc x1 false, .row .int x3 false, .row .acc x43 true]⟩ (by kernel_rfl) trivial ?_
      refine bindO_e h (fun x45 hc46 h => ?_)
      refine WO_call [.ro 1] Try.f34 rfl rfl rfl (by kernel_rfl) rfl rfl (by kernel_rfl) (laws_toIntS_ok n x3 x45 hc46) (And.intro (And.intro rfl rfl) (trivial)) rfl ?_
      refine WO_sub [0, 1, 2, 3] [0, 1, 2, 21, 22, 24] (st' := ⟨[(0, .one (.e (.sl 0 0 x1.length))), (1, I i2), (2, .one (.e (.sl 1 0 x3.length))), (21, .one (.e (.sl 2 0 x43.length))), (22, I i2), (24, .one (.e (.sl 3 0 x45.length)))], [.row .acc x1 false, .row .int x3 false, .row .acc x43 true, .row .int x45 true]⟩) (by kernel_rfl) ?_
      refine bindO_e h (fun b47 hc48 h => ?_)
      refine WO_call [.ro 2, .ro 3] Try.f23 rfl rfl rfl (by kernel_rfl) rfl rfl (by kernel_rfl) (spec_MayCommit_ok n x43 i2 x45 b47 hc48) (And.intro (And.intro rfl rfl) (And.intro (And.intro rfl rfl) (trivial))) rfl ?_
      refine WO_step 1 [0, 1] [0, 1, 2, 8] True ⟨[(0, .one (.e (.sl 0 0 x1.length))), (1, I i2), (2, .one (.e (.sl 1 0 x3.length))), (8, B b47)], [.row .acc x1 false, .row .int x3 false]⟩ (by kernel_rfl) trivial ?_
      refine WO_nil rfl ?_
      refine thenS_n ?_
      refine W_seq ?_
      refine W_region ?_
      refine WO_step 1 [0, 1] [0, 1, 2, 8, 26] True ⟨[(0, .one (.e (.sl 0 0 x1.length))), (1, I i2), (2, .one (.e (.sl 1 0 x3.length))), (8, B b47), (26, .one (.e (.sl 0 0 x1.length)))], [.row .acc x1 false, .row .int x3 false]⟩ (by kernel_rfl) trivial ?_
      refine bindO_e h (fun x49 hc50 h => ?_)
      refine WO_call [.ro 0] Try.f25 rfl rfl rfl (by kernel_rfl) rfl rfl (by kernel_rfl) (laws_toAccessS_ok n x1 x49 hc50) (And.intro (And.intro rfl rfl) (trivial)) rfl ?_
      refine WO_step 1 [0, 1, 2] [0, 1, 2, 8, 9] True ⟨[(0, .one (.e (.sl 0 0 x1.length))), (1, I i2), (2, .one (.e (.sl 1 0 x3.length))), (8, B b47), (9, .one (.e (.sl 2 0 x49.length)))], [.row .acc x1 false, .row .int x3 false, .row .acc x49 true]⟩ (by kernel_rfl) trivial ?_
      refine WO_nil rfl ?_
      refine thenS_n ?_
      refine W_seq ?_
      refine W_region ?_
      refine WO_step 1 [0, 1, 2] [0, 1, 2, 8, 9, 28] True ⟨[(0, .one (.e (.sl 0 0 x1.length))), (1, I i2), (2, .one (.e (.sl 1 0 x3.length))), (8, B b47), (9, .one (.e (.sl 2 0 x49.length))), (28, .one (.e (.sl 1 0 x3.length)))], [.row .acc x1 false, .row .int x3 false, .row .acc x49 true]⟩ (by kernel_rfl) trivial ?_
      refine bindO_e h (fun x51 hc52 h => ?_)
      refine WO_call [.ro 1] Try.f34 rfl rfl rfl (by kernel_rfl) rfl rfl (by kernel_rfl) (laws_toIntS_ok n x3 x51 hc52) (And.intro (And.intro rfl rfl) (trivial)) rfl ?_
      refine WO_step 1 [0, 1, 2, 3] [0, 1, 2, 8, 9, 10] True ⟨[(0, .one (.e (.sl 0 0 x1.length))), (1, I i2), (2, .one (.e (.sl 1 0 x3.length))), (8, B b47), (9, .one (.e (.sl 2 0 x49.length))), (10, .one (.e (.sl 3 0 x51.length)))], [.row .acc x1 false, .row .int x3 false, .row .acc x49 true, .row .int x51 true]⟩ (by kernel_rfl) trivial ?_
      refine WO_nil rfl ?_
      refine thenS_n ?_
      refine W_seq ?_
      refine W_region ?_
      refine WO_step 3 [0, 1, 2, 3] [0, 2, 8, 9, 10, 30, 31, 32] True ⟨[(0, .one (.e (.sl 0 0 x1.length))), (2, .one (.e (.sl 1 0 x3.length))), (8, B b47), (9, .one (.e (.sl 2 0 x49.length))), (10, .one (.e (.sl 3 0 x51.length))), (30, .one (.e (.sl 2 0 x49.length))), (31, I i2), (32, .one (.e (.sl 3 0 x51.length)))], [.row .acc x1 false, .row .int x3 false, .row .acc x49 true, .row .int x51 true]⟩ (by kernel_rfl) trivial ?_
      refine bindO_e h (fun b53 hc54 h => ?_)
      refine WO_call [.ro 2, .ro 3] Try.f22 rfl rfl rfl (by kernel_rfl) rfl rfl (by kernel_rfl) (impl_MayCommit_ok n x49 i2 x51 b53 hc54) (And.intro (And.intro rfl rfl) (And.intro (And.intro rfl rfl) (trivial))) rfl ?_
      refine WO_step 1 [0, 1, 2, 3] [0, 2, 8, 9, 10, 11] True ⟨[(0, .one (.e (.sl 0 0 x1.length))), (2, .one (.e (.sl 1 0 x3.length))), (8, B b47), (9, .one (.e (.sl 2 0 x49.length))), (10, .one (.e (.sl 3 0 x51.length))), (11, B b53)], [.row .acc x1 false, .row .int x3 false, .row .acc x49 true, .row .int x51 true]⟩ (by kernel_rfl) trivial ?_
      refine WO_nil rfl ?_
      refine thenS_n ?_
      refine W_seq ?_
      refine W_seq ?_
      refine W_region ?_
      refine WO_step 3 [0, 1, 2, 3] [0, 2, 9, 10, 36] (True ∧ True) ⟨[(0, .one (.e (.sl 0 0 x1.length))), (2, .one (.e (.sl 1 0 x3.length))), (9, .one (.e (.sl 2 0 x49.length))), (10, .one (.e (.sl 3 0 x51.length))), (36, B (!(b53 == b47)))], [.row .acc x1 false, .row .int x3 false, .row .acc x49 true, .row .int x51 true]⟩ (by kernel_rfl) ⟨trivial, trivial⟩ ?_
      refine WO_nil rfl ?_
      refine thenS_n ?_
      refine iteO_e h (fun hb56 h => W_true rfl hb56 ?_) (fun hb56 h => W_false rfl hb56 ?_)
      · refine W_seq ?_
        refine W_region ?_
        refine WO_step 1 [0, 1] [6] True ⟨[(6, B false)], [.row .acc x1 false, .row .int x3 false]⟩ (by kernel_rfl) trivial ?_
        refine WO_nil rfl ?_
        refine thenS_n ?_
        refine W_ret ?_
        refine thenS_r ?_
        cases h
        exact ⟨[0, 1], True, by kernel_rfl, trivial⟩
      · refine W_sub [0, 1, 2, 3] [0, 2, 9, 10] (st' := ⟨[(0, .one (.e (.sl 0 0 x1.length))), (2, .one (.e (.sl 1 0 x3.length))), (9, .one (.e (.sl 2 0 x49.length))), (10, .one (.e (.sl 3 0 x51.length)))], [.row .acc x1 false, .row .int x3 false, .row .acc x49 true, .row .int x51 true]⟩) (by kernel_rfl) ?_
        refine W_skip ?_
        refine thenS_n ?_
        refine W_seq ?_
        refine W_seq ?_
        refine W_region ?_
        refine WO_step 2 [0, 1, 3, 2] [2, 10, 37, 38] True ⟨[(2, .one (.e (.sl 1 0 x3.length))), (10, .one (.e (.sl 2 0 x51.length))), (37, .one (.e (.sl 3 0 x49.length))), (38, .one (.e (.sl 0 0 x1.length)))], [.row .acc x1 false, .row .int x3 false, .row .int x51 true, .row .acc x49 true]⟩ (by kernel_rfl) trivial ?_
        refine bindO_e h (fun x57 hc58 h => ?_)
        refine WO_call [.ro 0] Try.f25 rfl rfl rfl (by kernel_rfl) rfl rfl (by kernel_rfl) (laws_toAccessS_ok n x1 x57 hc58) (And.intro (And.intro rfl rfl) (trivial)) rfl ?_
        refine WO_sub [0, 1, 2, 3, 4] [2, 10, 37, 39] (st' := ⟨[(2, .one (.e (.sl 1 0 x3.length))), (10, .one (.e (.sl 2 0 x51.length))), (37, .one (.e (.sl 3 0 x49.length))), (39, .one (.e (.sl 4 0 x57.length)))], [.row .acc x1 false, .row .int x3 false, .row .int x51 true, .row .acc x49 true, .row .acc x57 true]⟩) (by kernel_rfl) ?_
        refine bindO_e h (fun b59 hc60 h => ?_)
        refine WO_call [.ro 3, .ro 4] Try.f27 rfl rfl rfl (by kernel_rfl) rfl rfl (by kernel_rfl) (laws_eqAccessS_ok n x49 x57 b59 hc60) (And.intro (And.intro rfl rfl) (And.intro (And.intro rfl rfl) (trivial))) rfl ?_
        refine WO_step 1 [0, 1, 2] [2, 10, 41] True ⟨[(2, .one (.e (.sl 1 0 x3.length))), (10, .one (.e (.sl 2 0 x51.length))), (41, B (!b59))], [.row .acc x1 false, .row .int x3 false, .row .int x51 true]⟩ (by kernel_rfl) trivial ?_
        refine WO_nil rfl ?_
        refine thenS_n ?_
        refine iteO_e h (fun hb62 h => W_true rfl hb62 ?_) (fun hb62 h => W_false rfl hb62 ?_)
        · refine W_seq ?_
          refine W_region ?_
          refine WO_step 1 [0, 1] [6] True ⟨[(6, B false)], [.row .acc x1 false, .row .int x3 false]⟩ (by kernel_rfl) trivial ?_
          refine WO_nil rfl ?_
          refine thenS_n ?_
          refine W_ret ?_
          refine thenS_r ?_
          cases h
          exact ⟨[0, 1], True, by kernel_rfl, trivial⟩
        · refine W_sub [0, 1, 2] [2, 10] (st' := ⟨[(2, .one (.e (.sl 1 0 x3.length))), (10, .one (.e (.sl 2 0 x51.length)))], [.row .acc x1 false, .row .int x3 false, .row .int x51 true]⟩) (by kernel_rfl) ?_
          refine W_skip ?_
          refine thenS_n ?_
          refine W_seq ?_
          refine W_seq ?_
          refine W_region ?_
          refine WO_step 2 [0, 1, 2] [42, 43] True ⟨[(42, .one (.e (.sl 2 0 x51.length))), (43, .one (.e (.sl 1 0 x3.length)))], [.row .acc x1 false, .row .int x3 false, .row .int x51 true]⟩ (by kernel_rfl) trivial ?_
          refine bindO_e h (fun x63 hc64 h => ?_)
          refine WO_call [.ro 1] Try.f34 rfl rfl rfl (by kernel_rfl) rfl rfl (by kernel_rfl) (laws_toIntS_ok n x3 x63 hc64) (And.intro (And.intro rfl rfl) (trivial)) rfl ?_
          refine WO_sub [0, 1, 2, 3] [42, 44] (st' := ⟨[(42, .one (.e (.sl 2 0 x51.length))), (44, .one (.e (.sl 3 0 x63.length)))], [.row .acc x1 false, .row .int x3 false, .row .int x51 true, .row .int x63 true]⟩) (by kernel_rfl) ?_
          refine bindO_e h (fun b65 hc66 h => ?_)
          refine WO_call [.ro 2, .ro 3] Try.f26 rfl rfl rfl (by kernel_rfl) rfl rfl (by kernel_rfl) (laws_eqIntS_ok n x51 x63 b65 hc66) (And.intro (And.intro rfl rfl) (And.intro (And.intro rfl rfl) (trivial))) rfl ?_
          refine WO_step 1 [0, 1] [46] True ⟨[(46, B (!b65))], [.row .acc x1 false, .row .int x3 false]⟩ (by kernel_rfl) trivial ?_
          refine WO_nil rfl ?_
          refine thenS_n ?_
          refine iteO_e h (fun hb68 h => W_true rfl hb68 ?_) (fun hb68 h => W_false rfl hb68 ?_)
          · refine W_seq ?_
            refine W_region ?_
            refine WO_step 1 [0, 1] [6] True ⟨[(6, B false)], [.row .acc x1 false, .row .int x3 false]⟩ (by kernel_rfl) trivial ?_
            refine WO_nil rfl ?_
            refine thenS_n ?_
            refine W_ret ?_
            refine thenS_r ?_
            cases h
            exact ⟨[0, 1], True, by kernel_rfl, trivial⟩
          · refine W_sub [0, 1] [] (st' := ⟨[], [.row .acc x1 false, .row .int x3 false]⟩) (by kernel_rfl) ?_
            refine W_skip ?_
            refine thenS_n ?_
            refine W_seq ?_
            refine W_region ?_
            refine WO_step 1 [0, 1] [6] True ⟨[(6, B true)], [.row .acc x1 false, .row .int x3 false]⟩ (by kernel_rfl) trivial ?_
            refine WO_nil rfl ?_
            refine thenS_n ?_
            refine W_ret ?_
            cases h
            exact ⟨[0, 1], True, by kernel_rfl, trivial⟩

/- laws.FnAbortSet -/
def laws_FnAbortSet_L2 (x438 : List Acc) (i439 : Int) (x441 : List Int) (i589 : Int) (x782 : List Int) (x1 : List Int) : Nat → Bool → Int → Option (Bool)
| 0, _, _ => none
| n + 1, b812, i813 =>
 iteO (decide (i813 < ((x782.length : Nat) : Int)))
 (bindO (iteO b812
 (some true)
 (guardO (0 ≤ i813 ∧ i813 < ((x782.length : Nat) : Int)) <|
 bindO (laws_isIn n x441 (x782.getD i813.toNat 0)) fun b860 =>
 some b860)) fun b856 =>
 laws_FnAbortSet_L2 x438 i439 x441 i589 x782 x1 n b856 (w64 (i813 + 1)))
 (some b812)

theorem laws_FnAbortSet_L2_ok (w : World) (X : Nat → Prop) (θ : List Loc) (x438 : List Acc) (i439 : Int) (x441 : List Int) (i589 : Int) (x782 : List Int) (x1 : List Int) (b838 : Bool) : ∀ (n : Nat) (b812 : Bool) (i813 : Int), laws_FnAbortSet_L2 x438 i439 x441 i589 x782 x1 n b812 i813 = some b838 → WL EE ⟨w, X, θ, 70, 1⟩ (subC [1, 1, 1, 1, 1, 0, 1, 4, 4, 1, 0, 4, 1, 1, 0, 1, 4, 4] (bodyC Try.f11)) (fun (e : Exit) (s : St) => e = .exit 2 ∧ s = ⟨[(3, .one (.e (.sl 1 0 x438.length))), (4, I i439), (5, .one (.e (.sl 2 0 x441.length))), (6, I i589), (8, B b838)], [.row .u8 x1 false, .row .acc x438 true, .row .int x441 true]⟩) ⟨[(3, .one (.e (.sl 1 0 x438.length))), (4, I i439), (5, .one (.e (.sl 2 0 x441.length))), (6, I i589), (7, .one (.e (.sl 3 0 x782.length))), (8, B b812), (9, I i813)], [.row .u8 x1 false, .row .acc x438 true, .row .int x441 true, .row .int x782 true]⟩ := by
  intro n
  induction n with
  | zero => intro _ _ h; exact none_e h
  | succ n ih =>
    intro b812 i813 h
    rw [laws_FnAbortSet_L2] at h
    refine WL_round ?_
    refine W_seq ?_
    refine W_seq ?_
    refine W_region ?_
    refine WO_step 4 [0, 1, 2, 3] [3, 4, 5, 6, 7, 8, 9, 50] (True ∧ (True ∧ True)) ⟨[(3, .one (.e (.sl 1 0 x438.length))), (4, I i439), (5, .one (.e (.sl 2 0 x441.length))), (6, I i589), (7, .one (.e (.sl 3 0 x782.length))), (8, B b812), (9, I i813), (50, B (decide (i813 < ((x782.length : Nat) : Int))))], [.row .u8 x1 false, .row .acc x438 true, .row .int x441 true, .row .int x782 true]⟩ (by kernel_rfl) ⟨trivial, trivial, trivial⟩ ?_
    refine WO_nil rfl ?_
    refine thenS_n ?_
    refine iteO_e h (fun hb841 h => W_true rfl hb841 ?_) (fun hb841 h => W_false rfl hb841 ?_)
    · refine W_sub [0, 1, 2, 3] [3, 4, 5, 6, 7, 8, 9] (st' := ⟨[(3, .one (.e (.sl 1 0 x438.length))), (4, I i439), (5, .one (.e (.sl 2 0 x441.length))), (6, I i589), (7, .one (.e (.sl 3 0 x782.length))), (8, B b812), (9, I i813)], [.row .u8 x1 false, .row .acc x438 true, .row .int x441 true, .row .int x782 true]⟩) (by kernel_rfl) ?_
      refine W_skip ?_
      refine thenS_n ?_
      refine W_seq ?_
      refine W_block ?_
      refine W_region ?_
      refine WO_step 2 [0, 1, 2, 3] [3, 4, 5, 6, 7, 9, 54] True ⟨[(3, .one (.e (.sl 1 0 x438.length))), (4, I i439), (5, .one (.e (.sl 2 0 x441.length))), (6, I i589), (7, .one (.e (.sl 3 0 x782.length))), (9, I i813), (54, B b812)], [.row .u8 x1 false, .row .acc x438 true, .row .int x441 true, .row .int x782 true]⟩ (by kernel_rfl) trivial ?_
      refine bindO_e h (fun b856 hv857 h => ?_)
      refine WO_thru ⟨[(3, .one (.e (.sl 1 0 x438.length))), (4, I i439), (5, .one (.e (.sl 2 0 x441.length))), (6, I i589), (7, .one (.e (.sl 3 0 x782.length))), (8, B b856), (9, I i813)], [.row .u8 x1 false, .row .acc x438 true, .row .int x441 true, .row .int x782 true]⟩ ?_ ?_
      · refine iteO_e hv857 (fun hb858 hv857 => WO_known 54 true rfl hb858 ?_) (fun hb858 hv857 => WO_known 54 false rfl hb858 ?_)
        · refine WO_step 8 [0, 1, 2, 3] [3, 4, 5, 6, 7, 8, 9] True ⟨[(3, .one (.e (.sl 1 0 x438.length))), (4, I i439), (5, .one (.e (.sl 2 0 x441.length))), (6, I i589), (7, .one (.e (.sl 3 0 x782.length))), (8, B true), (9, I i813)], [.row .u8 x1 false, .row .acc x438 true, .row .int x441 true, .row .int x782 true]⟩ (by kernel_rfl) trivial ?_
          cases hv857
          exact WO_nil rfl ⟨rfl, rfl⟩
        · refine guardO_e hv857 (fun hg859 hv857 => ?_)
          refine WO_step 5 [0, 1, 2, 3] [3, 4, 5, 6, 7, 9, 54, 55, 59] ((0 ≤ i813 ∧ i813 < ((x782.length : Nat) : Int)) ∧ (True ∧ True)) ⟨[(3, .one (.e (.sl 1 0 x438.length))), (4, I i439), (5, .one (.e (.sl 2 0 x441.length))), (6, I i589), (7, .one (.e (.sl 3 0 x782.length))), (9, I i813), (54, B false), (55, .one (.e (.sl 2 0 x441.length))), (59, I (x782.getD i813.toNat 0))], [.row .u8 x1 false, .row .acc x438 true, .row .int x441 true, .row .int x782 true]⟩ (by kernel_rfl) ⟨hg859, trivial, trivial⟩ ?_
          refine bindO_e hv857 (fun b860 hc861 hv857 => ?_)
          refine WO_call [.ro 2] Try.f20 rfl rfl rfl (by kernel_rfl) rfl rfl (by kernel_rfl) (laws_isIn_ok n x441 (x782.getD i813.toNat 0) b860 hc861) (And.intro (And.intro rfl rfl) (trivial)) rfl ?_
          refine WO_step 2 [0, 1, 2, 3] [3, 4, 5, 6, 7, 8, 9] True ⟨[(3, .one (.e (.sl 1 0 x438.length))), (4, I i439), (5, .one (.e (.sl 2 0 x441.length))), (6, I i589), (7, .one (.e (.sl 3 0 x782.length))), (8, B b860), (9, I i813)], [.row .u8 x1 false, .row .acc x438 true, .row .int x441 true, .row .int x782 true]⟩ (by kernel_rfl) trivial ?_
          cases hv857
          exact WO_nil rfl ⟨rfl, rfl⟩
      · refine blockS_n ?_
        refine thenS_n ?_
        refine W_region ?_
        refine WO_step 3 [0, 1, 2, 3] [3, 4, 5, 6, 7, 8, 9] (True ∧ True) ⟨[(3, .one (.e (.sl 1 0 x438.length))), (4, I i439), (5, .one (.e (.sl 2 0 x441.length))), (6, I i589), (7, .one (.e (.sl 3 0 x782.length))), (8, B b856), (9, I (w64 (i813 + 1)))], [.row .u8 x1 false, .row .acc x438 true, .row .int x441 true, .row .int x782 true]⟩ (by kernel_rfl) ⟨trivial, trivial⟩ ?_
        refine WO_nil rfl ?_
        refine thenS_n ?_
        exact ih _ _ h
    · refine W_sub [0, 1, 2] [3, 4, 5, 6, 8] (st' := ⟨[(3, .one (.e (.sl 1 0 x438.length))), (4, I i439), (5, .one (.e (.sl 2 0 x441.length))), (6, I i589), (8, B b812)], [.row .u8 x1 false, .row .acc x438 true, .row .int x441 true]⟩) (by kernel_rfl) ?_
      refine W_exit ?_
      refine thenS_e ?_
      refine thenS_e ?_
      cases h
      exact And.intro rfl rfl

def laws_FnAbortSet_L1 (x438 : List Acc) (i439 : Int) (x441 : List Int) (x1 : List Int) : Nat → Int → Option ((Unit) ⊕ (Unit))
| 0, _ => none
| n + 1, i589 =>
 iteO (decide (i589 < 4))
 (bindO (impl_ReadsFrom n x438 i589) fun x782 =>
 bindO (laws_FnAbortSet_L2 x438 i439 x441 i589 x782 x1 n (decide (i589 = i439)) 0) fun b838 =>
 bindO (laws_isIn n x441 i589) fun b863 =>
 iteO (!(b838 == b863))
 (some (.inl ()))
 (laws_FnAbortSet_L1 x438 i439 x441 x1 n (w64 (i589 + 1))))
 (some (.inr ()))

theorem laws_FnAbortSet_L1_ok (w : World) (X : Nat → Prop) (θ : List Loc) (x438 : List Acc) (i439 : Int) (x441 : List Int) (x1 : List Int) (v : (Unit) ⊕ (Unit)) : ∀ (n : Nat) (i589 : Int), laws_FnAbortSet_L1 x438 i439 x441 x1 n i589 = some v → WL EE ⟨w, X, θ, 70, 1⟩ (subC [1, 1, 1, 1, 1, 0, 1, 4, 4] (bodyC Try.f11)) (fun (e : Exit) (s : St) => (match v with | (.inl _) => e = .ret ∧ s = ⟨[(2, B false)], [.row .u8 x1 false]⟩ | (.inr _) => e = .exit 0 ∧ s = ⟨[(4, I i439), (5, .one (.e (.sl 1 0 x441.length)))], [.row .u8 x1 false, .row .int x441 true]⟩ : Prop)) ⟨[(3, .one (.e (.sl 1 0 x438.length))), (4, I i439), (5, .one (.e (.sl 2 0 x441.length))), (6, I i589)], [.row .u8 x1 false, .row .acc x438 true, .row .int x441 true]⟩ := by
  intro n
  induction n with
  | zero => intro _ h; exact none_e h
  | succ n ih =>
    intro i589 h
    rw [laws_FnAbortSet_L1] at h
    refine WL_round ?_
    refine W_seq ?_
    refine W_seq ?_
    refine W_region ?_
    refine WO_step 2 [0, 1, 2] [3, 4, 5, 6, 38] (True ∧ True) ⟨[(3, .one (.e (.sl 1 0 x438.length))), (4, I i439), (5, .one (.e (.sl 2 0 x441.length))), (6, I i589), (38, B (decide (i589 < 4)))], [.row .u8 x1 false, .row .acc x438 true, .row .int x441 true]⟩ (by kernel_rfl) ⟨trivial, trivial⟩ ?_
    refine WO_nil rfl ?_
    refine thenS_n ?_
    refine iteO_e h (fun hb719 h => W_true rfl hb719 ?_) (fun hb719 h => W_false rfl hb719 ?_)
    · refine W_sub [0, 1, 2] [3, 4, 5, 6] (st' := ⟨[(3, .one (.e (.sl 1 0 x438.length))), (4, I i439), (5, .one (.e (.sl 2 0 x441.length))), (6, I i589)], [.row .u8 x1 false, .row .acc x438 true, .row .int x441 true]⟩) (by kernel_rfl) ?_
      refine W_skip ?_
      refine thenS_n ?_
      refine W_seq ?_
      refine W_block ?_
      refine W_seq ?_
      refine W_region ?_
      refine WO_step 2 [0, 1, 2] [3, 4, 5, 6, 41, 42] True ⟨[(3, .one (.e (.sl 1 0 x438.length))), (4, I i439), (5, .one (.e (.sl 2 0 x441.length))), (6, I i589), (41, .one (.e (.sl 1 0 x438.length))), (42, I i589)], [.row .u8 x1 false, .row .acc x438 true, .row .int x441 true]⟩ (by kernel_rfl) trivial ?_
      refine bindO_e h (fun x782 hc783 h => ?_)
      refine WO_call [.ro 1] Try.f16 rfl rfl rfl (by kernel_rfl) rfl rfl (by kernel_rfl) (impl_ReadsFrom_ok n x438 i589 x782 hc783) (And.intro (And.intro rfl rfl) (trivial)) rfl ?_
      refine WO_step 1 [0, 1, 2, 3] [3, 4, 5, 6, 7] True ⟨[(3, .one (.e (.sl 1 0 x438.length))), (4, I i439), (5, .one (.e (.sl 2 0 x441.length))), (6, I i589), (7, .one (.e (.sl 3 0 x782.length)))], [.row .u8 x1 false, .row .acc x438 true, .row .int x441 true, .row .int x782 true]⟩ (by kernel_rfl) trivial ?_
      refine WO_nil rfl ?_
      refine thenS_n ?_
      refine W_seq ?_
      refine W_region ?_
      refine WO_step 4 [0, 1, 2, 3] [3, 4, 5, 6, 7, 8] (True ∧ True) ⟨[(3, .one (.e (.sl 1 0 x438.length))), (4, I i439), (5, .one (.e (.sl 2 0 x441.length))), (6, I i589), (7, .one (.e (.sl 3 0 x782.length))), (8, B (decide (i589 = i439)))], [.row .u8 x1 false, .row .acc x438 true, .row .int x441 true, .row .int x782 true]⟩ (by kernel_rfl) ⟨trivial, trivial⟩ ?_
      refine WO_nil rfl ?_
      refine thenS_n ?_
      refine W_seq ?_
      refine W_seq ?_
      refine W_region ?_
      refine WO_step 1 [0, 1, 2, 3] [3, 4, 5, 6, 7, 8, 9] True ⟨[(3, .one (.e (.sl 1 0 x438.length))), (4, I i439), (5, .one (.e (.sl 2 0 x441.length))), (6, I i589), (7, .one (.e (.sl 3 0 x782.length))), (8, B (decide (i589 = i439))), (9, I 0)], [.row .u8 x1 false, .row .acc x438 true, .row .int x441 true, .row .int x782 true]⟩ (by kernel_rfl) trivial ?_
      refine WO_nil rfl ?_
      refine thenS_n ?_
      refine W_block ?_
      refine W_loop ?_
      refine bindO_e h (fun b838 hb838 h => ?_)
      refine WL_cut (laws_FnAbortSet_L2_ok w X θ x438 i439 x441 i589 x782 x1 b838 n (decide (i589 = i439)) 0 hb838) ?_
      rintro _ _ ⟨rfl, rfl⟩
      refine blockS_y ?_
      refine thenS_n ?_
      refine W_seq ?_
      refine W_region ?_
      refine WO_step 3 [0, 1, 2] [3, 4, 5, 6, 62, 63, 64] True ⟨[(3, .one (.e (.sl 1 0 x438.length))), (4, I i439), (5, .one (.e (.sl 2 0 x441.length))), (6, I i589), (62, B b838), (63, .one (.e (.sl 2 0 x441.length))), (64, I i589)], [.row .u8 x1 false, .row .acc x438 true, .row .int x441 true]⟩ (by kernel_rfl) trivial ?_
      refine bindO_e h (fun b863 hc864 h => ?_)
      refine WO_call [.ro 2] Try.f20 rfl rfl rfl (by kernel_rfl) rfl rfl (by kernel_rfl) (laws_isIn_ok n x441 i589 b863 hc864) (And.intro (And.intro rfl rfl) (trivial)) rfl ?_
      refine WO_step 1 [0, 1, 2] [3, 4, 5, 6, 66] (True ∧ True) ⟨[(3, .one (.e (.sl 1 0 x438.length))), (4, I i439), (5, .one (.e (.sl 2 0 x441.length))), (6, I i589), (66, B (!(b838 == b863)))], [.row .u8 x1 false, .row .acc x438 true, .row .int x441 true]⟩ (by kernel_rfl) ⟨trivial, trivial⟩ ?_
      refine WO_nil rfl ?_
      refine thenS_n ?_
      refine iteO_e h (fun hb866 h => W_true rfl hb866 ?_) (fun hb866 h => W_false rfl hb866 ?_)
      · refine W_seq ?_
        refine W_region ?_
        refine WO_step 1 [0] [2] True ⟨[(2, B false)], [.row .u8 x1 false]⟩ (by kernel_rfl) trivial ?_
        refine WO_nil rfl ?_
        refine thenS_n ?_
        refine W_ret ?_
        refine blockS_r ?_
        refine thenS_r ?_
        refine thenS_r ?_
        cases h
        exact And.intro rfl rfl
      · refine W_sub [0, 1, 2] [3, 4, 5, 6] (st' := ⟨[(3, .one (.e (.sl 1 0 x438.length))), (4, I i439), (5, .one (.e (.sl 2 0 x441.length))), (6, I i589)], [.row .u8 x1 false, .row .acc x438 true, .row .int x441 true]⟩) (by kernel_rfl) ?_
        refine W_skip ?_
        refine blockS_n ?_
        refine thenS_n ?_
        refine W_region ?_
        refine WO_step 3 [0, 1, 2] [3, 4, 5, 6] (True ∧ True) ⟨[(3, .one (.e (.sl 1 0 x438.length))), (4, I i439), (5, .one (.e (.sl 2 0 x441.length))), (6, I (w64 (i589 + 1)))], [.row .u8 x1 false, .row .acc x438 true, .row .int x441 true]⟩ (by kernel_rfl) ⟨trivial, trivial⟩ ?_
        refine WO_nil rfl ?_
        refine thenS_n ?_
        exact ih _ h
    · refine W_sub [0, 2] [4, 5] (st' := ⟨[(4, I i439), (5, .one (.e (.sl 1 0 x441.length)))], [.row .u8 x1 false, .row .int x441 true]⟩) (by kernel_rfl) ?_
      refine W_exit ?_
      refine thenS_e ?_
      refine thenS_e ?_
      cases h
      exact And.intro rfl rfl

def laws_FnAbortSet (n : Nat) (x1 : List Int) : Option (Bool) :=
 iteO (decide (1048576 < ((x1.length : Nat) : Int)))
 (some true)
 (bindO (spec_DrawAbortSet n x1) fun (x438, i439) =>
 bindO (impl_AbortSet n x438 i439) fun x441 =>
 bindO (spec_AbortSet n x438 i439) fun x443 =>
 bindO (laws_equalInts n x441 x443) fun b445 =>
 iteO ((!b445) || (decide (((x441.length : Nat) : Int) = 0)))
 (bindO (spec_AbortSet n x438 i439) fun x456 =>
 bindO (laws_equalInts n x441 x456) fun b458 =>
 some b458)
 (bindO (laws_FnAbortSet_L1 x438 i439 x441 x1 n 0) fun v867 =>
 match v867 with
 | (.inl _) => (some false)
 | (.inr _) => (bindO (laws_isIn n x441 i439) fun b868 =>
 some b868)
))

theorem laws_FnAbortSet_ok (n : Nat) (x1 : List Int) (b435 : Bool) (h : laws_FnAbortSet n x1 = some b435) : FOk EE 11 [.one (.e (.sl 0 0 x1.length))] [.row .u8 x1 false] (B b435) [.row .u8 x1 false] := by
  unfold laws_FnAbortSet at h
  refine FOk_of_W 70 1 Try.func11 rfl rfl (Nat.le_of_ble_eq_true rfl) rfl (fun w X θ => ?_)
  refine W_seq ?_
  refine W_region ?_
  refine WO_step 1 [0] [0] True ⟨[(0, .one (.e (.sl 0 0 x1.length)))], [.row .u8 x1 false]⟩ (by kernel_rfl) trivial ?_
  refine WO_nil rfl ?_
  refine thenS_n ?_
  refine W_seq ?_
  refine W_seq ?_
  refine W_region ?_
  refine WO_step 3 [0] [0, 12] (True ∧ (True ∧ True)) ⟨[(0, .one (.e (.sl 0 0 x1.length))), (12, B (decide (1048576 < ((x1.length : Nat) : Int))))], [.row .u8 x1 false]⟩ (by kernel_rfl) ⟨trivial, trivial, trivial⟩ ?_
  refine WO_nil rfl ?_
  refine thenS_n ?_
  refine iteO_e h (fun hb437 h => W_true rfl hb437 ?_) (fun hb437 h => W_false rfl hb437 ?_)
  · refine W_seq ?_
    refine W_region ?_
    refine WO_step 1 [0] [2] True ⟨[(2, B true)], [.row .u8 x1 false]⟩ (by kernel_rfl) trivial ?_
    refine WO_nil rfl ?_
    refine thenS_n ?_
    refine W_ret ?_
    refine thenS_r ?_
    cases h
    exact ⟨[0], True, by kernel_rfl, trivial⟩
  · refine W_sub [0] [0] (st' := ⟨[(0, .one (.e (.sl 0 0 x1.length)))], [.row .u8 x1 false]⟩) (by kernel_rfl) ?_
    refine W_skip ?_
    refine thenS_n ?_
    refine W_seq ?_
    refine W_region ?_
    refine WO_step 1 [0] [14] True ⟨[(14, .one (.e (.sl 0 0 x1.length)))], [.row .u8 x1 false]⟩ (by kernel_rfl) trivial ?_
    refine bindO_e h (fun v870 hc440 h => ?_)
    obtain ⟨x438, i439⟩ := v870
    refine WO_call [.ro 0] Try.f31 rfl rfl rfl (by kernel_rfl) rfl rfl (by kernel_rfl) (spec_DrawAbortSet_ok n x1 x438 i439 hc440) (And.intro (And.intro rfl rfl) (trivial)) rfl ?_
    refine WO_step 5 [0, 1] [3, 4] True ⟨[(3, .one (.e (.sl 1 0 x438.length))), (4, I i439)], [.row .u8 x1 false, .row .acc x438 true]⟩ (by kernel_rfl) trivial ?_
    refine WO_nil rfl ?_
    refine thenS_n ?_
    refine W_seq ?_
    refine W_region ?_
    refine WO_step 2 [0, 1] [3, 4, 18, 19] True ⟨[(3, .one (.e (.sl 1 0 x438.length))), (4, I i439), (18, .one (.e (.sl 1 0 x438.length))), (19, I i439)], [.row .u8 x1 false, .row .acc x438 true]⟩ (by kernel_rfl) trivial ?_
    refine bindO_e h (fun x441 hc442 h => ?_)
    refine WO_call [.ro 1] Try.f32 rfl rfl rfl (by kernel_rfl) rfl rfl (by kernel_rfl) (impl_AbortSet_ok n x438 i439 x441 hc442) (And.intro (And.intro rfl rfl) (trivial)) rfl ?_
    refine WO_step 1 [0, 1, 2] [3, 4, 5] True ⟨[(3, .one (.e (.sl 1 0 x438.length))), (4, I i439), (5, .one (.e (.sl 2 0 x441.length)))], [.row .u8 x1 false, .row .acc x438 true, .row .int x441 true]⟩ (by kernel_rfl) trivial ?_
    refine WO_nil rfl ?_
    refine thenS_n ?_
    refine W_seq ?_
    refine W_seq ?_
    refine W_region ?_
    refine WO_step 3 [0, 1, 2] [3, 4, 5, 21, 22, 23] True ⟨[(3, .one (.e (.sl 1 0 x438.length))), (4, I i439), (5, .one (.e (.sl 2 0 x441.length))), (21, .one (.e (.sl 2 0 x441.length))), (22, .one (.e (.sl 1 0 x438.length))), (23, I i439)], [.row .u8 x1 false, .row .acc x438 true, .row .int x441 true]⟩ (by kernel_rfl) trivial ?_
    refine bindO_e h (fun x443 hc444 h => ?_)
    refine WO_call [.ro 1] Try.f33 rfl rfl rfl (by kernel_rfl) rfl rfl (by kernel_rfl) (spec_AbortSet_ok n x438 i439 x443 hc444) (And.intro (And.intro rfl rfl) (trivial)) rfl ?_
    refine WO_sub [0, 1, 2, 3] [3, 4, 5, 21, 24] (st' := ⟨[(3, .one (.e (.sl 1 0 x438.length))), (4, I i439), (5, .one (.e (.sl 2 0 x441.length))), (21, .one (.e (.sl 2 0 x441.length))), (24, .one (.e (.sl 3 0 x443.length)))], [.row .u8 x1 false, .row .acc x438 true, .row .int x441 true, .row .int x443 true]⟩) (by kernel_rfl) ?_
    refine bindO_e h (fun b445 hc446 h => ?_)
    refine WO_call [.ro 2, .ro 3] Try.f17 rfl rfl rfl (by kernel_rfl) rfl rfl (by kernel_rfl) (laws_equalInts_ok n x441 x443 b445 hc446) (And.intro (And.intro rfl rfl) (And.intro (And.intro rfl rfl) (trivial))) rfl ?_
    refine WO_step 2 [0, 1, 2] [3, 4, 5, 27] True ⟨[(3, .one (.e (.sl 1 0 x438.length))), (4, I i439), (5, .one (.e (.sl 2 0 x441.length))), (27, B (!b445))], [.row .u8 x1 false, .row .acc x438 true, .row .int x441 true]⟩ (by kernel_rfl) trivial ?_
    refine WO_thru ⟨[(3, .one (.e (.sl 1 0 x438.length))), (4, I i439), (5, .one (.e (.sl 2 0 x441.length))), (31, B ((!b445) || (decide (((x441.length : Nat) : Int) = 0))))], [.row .u8 x1 false, .row .acc x438 true, .row .int x441 true]⟩ ?_ ?_
    · refine WO_if 27 rfl (fun hb449 => ?_) (fun hb449 => ?_)
      · refine WO_step 4 [0, 1, 2] [3, 4, 5, 31] True ⟨[(3, .one (.e (.sl 1 0 x438.length))), (4, I i439), (5, .one (.e (.sl 2 0 x441.length))), (31, B true)], [.row .u8 x1 false, .row .acc x438 true, .row .int x441 true]⟩ (by kernel_rfl) trivial ?_
        exact WO_nil rfl ⟨rfl, by first | rfl | (rw [hb449]; first | done | rfl)⟩
      · refine WO_step 4 [0, 1, 2] [3, 4, 5, 31] (True ∧ (True ∧ True)) ⟨[(3, .one (.e (.sl 1 0 x438.length))), (4, I i439), (5, .one (.e (.sl 2 0 x441.length))), (31, B (decide (((x441.length : Nat) : Int) = 0)))], [.row .u8 x1 false, .row .acc x438 true, .row .int x441 true]⟩ (by kernel_rfl) ⟨trivial, trivial, trivial⟩ ?_
        exact WO_nil rfl ⟨rfl, by first | rfl | (rw [hb449]; first | done | rfl)⟩
    · refine thenS_n ?_
      refine iteO_e h (fun hb455 h => W_true rfl hb455 ?_) (fun hb455 h => W_false rfl hb455 ?_)
      · refine W_seq ?_
        refine W_region ?_
        refine WO_step 3 [0, 2, 1] [32, 33, 34] True ⟨[(32, .one (.e (.sl 1 0 x441.length))), (33, .one (.e (.sl 2 0 x438.length))), (34, I i439)], [.row .u8 x1 false, .row .int x441 true, .row .acc x438 true]⟩ (by kernel_rfl) trivial ?_
        refine bindO_e h (fun x456 hc457 h => ?_)
        refine WO_call [.ro 2] Try.f33 rfl rfl rfl (by kernel_rfl) rfl rfl (by kernel_rfl) (spec_AbortSet_ok n x438 i439 x456 hc457) (And.intro (And.intro rfl rfl) (trivial)) rfl ?_
        refine WO_sub [0, 1, 3] [32, 35] (st' := ⟨[(32, .one (.e (.sl 1 0 x441.length))), (35, .one (.e (.sl 2 0 x456.length)))], [.row .u8 x1 false, .row .int x441 true, .row .int x456 true]⟩) (by kernel_rfl) ?_
        refine bindO_e h (fun b458 hc459 h => ?_)
        refine WO_call [.ro 1, .ro 2] Try.f17 rfl rfl rfl (by kernel_rfl) rfl rfl (by kernel_rfl) (laws_equalInts_ok n x441 x456 b458 hc459) (And.intro (And.intro rfl rfl) (And.intro (And.intro rfl rfl) (trivial))) rfl ?_
        refine WO_step 1 [0] [2] True ⟨[(2, B b458)], [.row .u8 x1 false]⟩ (by kernel_rfl) trivial ?_
        refine WO_nil rfl ?_
        refine thenS_n ?_
        refine W_ret ?_
        refine thenS_r ?_
        cases h
        exact ⟨[0], True, by kernel_rfl, trivial⟩
      · refine W_sub [0, 1, 2] [3, 4, 5] (st' := ⟨[(3, .one (.e (.sl 1 0 x438.length))), (4, I i439), (5, .one (.e (.sl 2 0 x441.length)))], [.row .u8 x1 false, .row .acc x438 true, .row .int x441 true]⟩) (by kernel_rfl) ?_
        refine W_skip ?_
        refine thenS_n ?_
        refine W_seq ?_
        refine W_seq ?_
        refine W_region ?_
        refine WO_step 1 [0, 1, 2] [3, 4, 5, 6] True ⟨[(3, .one (.e (.sl 1 0 x438.length))), (4, I i439), (5, .one (.e (.sl 2 0 x441.length))), (6, I 0)], [.row .u8 x1 false, .row .acc x438 true, .row .int x441 true]⟩ (by kernel_rfl) trivial ?_
        refine WO_nil rfl ?_
        refine thenS_n ?_
        refine W_block ?_
        refine W_loop ?_
        refine bindO_e h (fun v867 hv867 h => ?_)
        refine WL_cut (laws_FnAbortSet_L1_ok w X θ x438 i439 x441 x1 v867 n 0 hv867) ?_
        rcases v867 with _ | _
        · rintro _ _ ⟨rfl, rfl⟩
          refine blockS_r ?_
          refine thenS_r ?_
          cases h
          exact ⟨[0], True, by kernel_rfl, trivial⟩
        · rintro _ _ ⟨rfl, rfl⟩
          refine blockS_y ?_
          refine thenS_n ?_
          refine W_seq ?_
          refine W_region ?_
          refine WO_step 2 [0, 1] [67, 68] True ⟨[(67, .one (.e (.sl 1 0 x441.length))), (68, I i439)], [.row .u8 x1 false, .row .int x441 true]⟩ (by kernel_rfl) trivial ?_
          refine bindO_e h (fun b868 hc869 h => ?_)
          refine WO_call [.ro 1] Try.f20 rfl rfl rfl (by kernel_rfl) rfl rfl (by kernel_rfl) (laws_isIn_ok n x441 i439 b868 hc869) (And.intro (And.intro rfl rfl) (trivial)) rfl ?_
          refine WO_step 1 [0] [2] True ⟨[(2, B b868)], [.row .u8 x1 false]⟩ (by kernel_rfl) trivial ?_
          refine WO_nil rfl ?_
          refine thenS_n ?_
          refine W_ret ?_
          cases h
          exact ⟨[0], True, by kernel_rfl, trivial⟩

/- laws.FnAbortSetNone -/
def laws_FnAbortSetNone_L1 (x104 : List Acc) (i105 : Int) (x107 : List Int) (x1 : List Int) : Nat → Bool → Int → Option (Bool)
| 0, _, _ => none
| n + 1, b158, i159 =>
 iteO (decide (i159 < 4))
 (bindO (iteO b158
 (some true)
 (bindO (impl_ReadsFrom n x104 i159) fun x212 =>
 bindO (laws_isIn n x212 i105) fun b214 =>
 some b214)) fun b209 =>
 laws_FnAbortSetNone_L1 x104 i105 x107 x1 n b209 (w64 (i159 + 1)))
 (some b158)

theorem laws_FnAbortSetNone_L1_ok (w : World) (X : Nat → Prop) (θ : List Loc) (x104 : List Acc) (i105 : Int) (x107 : List Int) (x1 : List Int) (b188 : Bool) : ∀ (n : Nat) (b158 : Bool) (i159 : Int), laws_FnAbortSetNone_L1 x104 i105 x107 x1 n b158 i159 = some b188 → WL EE ⟨w, X, θ, 53, 1⟩ (subC [1, 1, 1, 1, 1, 1, 0, 1, 4, 4] (bodyC Try.f12)) (fun (e : Exit) (s : St) => e = .exit 0 ∧ s = ⟨[(5, .one (.e (.sl 1 0 x107.length))), (6, B b188)], [.row .u8 x1 false, .row .int x107 true]⟩) ⟨[(3, .one (.e (.sl 1 0 x104.length))), (4, I i105), (5, .one (.e (.sl 2 0 x107.length))), (6, B b158), (7, I i159)], [.row .u8 x1 false, .row .acc x104 true, .row .int x107 true]⟩ := by
  intro n
  induction n with
  | zero => intro _ _ h; exact none_e h
  | succ n ih =>
    intro b158 i159 h
    rw [laws_FnAbortSetNone_L1] at h
    refine WL_round ?_
    refine W_seq ?_
    refine W_seq ?_
    refine W_region ?_
    refine WO_step 2 [0, 1, 2] [3, 4, 5, 6, 7, 36] (True ∧ True) ⟨[(3, .one (.e (.sl 1 0 x104.length))), (4, I i105), (5, .one (.e (.sl 2 0 x107.length))), (6, B b158), (7, I i159), (36, B (decide (i159 < 4)))], [.row .u8 x1 false, .row .acc x104 true, .row .int x107 true]⟩ (by kernel_rfl) ⟨trivial, trivial⟩ ?_
    refine WO_nil rfl ?_
    refine thenS_n ?_
    refine iteO_e h (fun hb191 h => W_true rfl hb191 ?_) (fun hb191 h => W_false rfl hb191 ?_)
    · refine W_sub [0, 1, 2] [3, 4, 5, 6, 7] (st' := ⟨[(3, .one (.e (.sl 1 0 x104.length))), (4, I i105), (5, .one (.e (.sl 2 0 x107.length))), (6, B b158), (7, I i159)], [.row .u8 x1 false, .row .acc x104 true, .row .int x107 true]⟩) (by kernel_rfl) ?_
      refine W_skip ?_
      refine thenS_n ?_
      refine W_seq ?_
      refine W_block ?_
      refine W_region ?_
      refine WO_step 2 [0, 1, 2] [3, 4, 5, 7, 40] True ⟨[(3, .one (.e (.sl 1 0 x104.length))), (4, I i105), (5, .one (.e (.sl 2 0 x107.length))), (7, I i159), (40, B b158)], [.row .u8 x1 false, .row .acc x104 true, .row .int x107 true]⟩ (by kernel_rfl) trivial ?_
      refine bindO_e h (fun b209 hv210 h => ?_)
      refine WO_thru ⟨[(3, .one (.e (.sl 1 0 x104.length))), (4, I i105), (5, .one (.e (.sl 2 0 x107.length))), (6, B b209), (7, I i159)], [.row .u8 x1 false, .row .acc x104 true, .row .int x107 true]⟩ ?_ ?_
      · refine iteO_e hv210 (fun hb211 hv210 => WO_known 40 true rfl hb211 ?_) (fun hb211 hv210 => WO_known 40 false rfl hb211 ?_)
        · refine WO_step 7 [0, 1, 2] [3, 4, 5, 6, 7] True ⟨[(3, .one (.e (.sl 1 0 x104.length))), (4, I i105), (5, .one (.e (.sl 2 0 x107.length))), (6, B true), (7, I i159)], [.row .u8 x1 false, .row .acc x104 true, .row .int x107 true]⟩ (by kernel_rfl) trivial ?_
          cases hv210
          exact WO_nil rfl ⟨rfl, rfl⟩
        · refine WO_step 2 [0, 1, 2] [3, 4, 5, 7, 40, 41, 42] True ⟨[(3, .one (.e (.sl 1 0 x104.length))), (4, I i105), (5, .one (.e (.sl 2 0 x107.length))), (7, I i159), (40, B false), (41, .one (.e (.sl 1 0 x104.length))), (42, I i159)], [.row .u8 x1 false, .row .acc x104 true, .row .int x107 true]⟩ (by kernel_rfl) trivial ?_
          refine bindO_e hv210 (fun x212 hc213 hv210 => ?_)
          refine WO_call [.ro 1] Try.f16 rfl rfl rfl (by kernel_rfl) rfl rfl (by kernel_rfl) (impl_ReadsFrom_ok n x104 i159 x212 hc213) (And.intro (And.intro rfl rfl) (trivial)) rfl ?_
          refine WO_step 1 [0, 1, 2, 3] [3, 4, 5, 7, 40, 43, 44] True ⟨[(3, .one (.e (.sl 1 0 x104.length))), (4, I i105), (5, .one (.e (.sl 2 0 x107.length))), (7, I i159), (40, B false), (43, .one (.e (.sl 3 0 x212.length))), (44, I i105)], [.row .u8 x1 false, .row .acc x104 true, .row .int x107 true, .row .int x212 true]⟩ (by kernel_rfl) trivial ?_
          refine bindO_e hv210 (fun b214 hc215 hv210 => ?_)
          refine WO_call [.ro 3] Try.f20 rfl rfl rfl (by kernel_rfl) rfl rfl (by kernel_rfl) (laws_isIn_ok n x212 i105 b214 hc215) (And.intro (And.intro rfl rfl) (trivial)) rfl ?_
          refine WO_step 2 [0, 1, 2] [3, 4, 5, 6, 7] True ⟨[(3, .one (.e (.sl 1 0 x104.length))), (4, I i105), (5, .one (.e (.sl 2 0 x107.length))), (6, B b214), (7, I i159)], [.row .u8 x1 false, .row .acc x104 true, .row .int x107 true]⟩ (by kernel_rfl) trivial ?_
          cases hv210
          exact WO_nil rfl ⟨rfl, rfl⟩
      · refine blockS_n ?_
        refine thenS_n ?_
        refine W_region ?_
        refine WO_step 3 [0, 1, 2] [3, 4, 5, 6, 7] (True ∧ True) ⟨[(3, .one (.e (.sl 1 0 x104.length))), (4, I i105), (5, .one (.e (.sl 2 0 x107.length))), (6, B b209), (7, I (w64 (i159 + 1)))], [.row .u8 x1 false, .row .acc x104 true, .row .int x107 true]⟩ (by kernel_rfl) ⟨trivial, trivial⟩ ?_
        refine WO_nil rfl ?_
        refine thenS_n ?_
        exact ih _ _ h
    · refine W_sub [0, 2] [5, 6] (st' := ⟨[(5, .one (.e (.sl 1 0 x107.length))), (6, B b158)], [.row .u8 x1 false, .row .int x107 true]⟩) (by kernel_rfl) ?_
      refine W_exit ?_
      refine thenS_e ?_
      refine thenS_e ?_
      cases h
      exact And.intro rfl rfl

def laws_FnAbortSetNone (n : Nat) (x1 : List Int) : Option (Bool) :=
 iteO (decide (1048576 < ((x1.length : Nat) : Int)))
 (some true)
 (bindO (spec_DrawAbortSet n x1) fun (x104, i105) =>
 bindO (impl_AbortSet n x104 i105) fun x107 =>
 bindO (spec_AbortSet n x104 i105) fun x109 =>
 bindO (laws_equalInts n x107 x109) fun b111 =>
 iteO ((!b111) || (decide (((x107.length : Nat) : Int) = 0)))
 (bindO (spec_AbortSet n x104 i105) fun x122 =>
 bindO (laws_equalInts n x107 x122) fun b124 =>
 some b124)
 (bindO (laws_FnAbortSetNone_L1 x104 i105 x107 x1 n false 0) fun b188 =>
 some ((decide (((x107.length : Nat) : Int) = 1)) == (!b188))))

theorem laws_FnAbortSetNone_ok (n : Nat) (x1 : List Int) (b101 : Bool) (h : laws_FnAbortSetNone n x1 = some b101) : FOk EE 12 [.one (.e (.sl 0 0 x1.length))] [.row .u8 x1 false] (B b101) [.row .u8 x1 false] := by
  unfold laws_FnAbortSetNone at h
  refine FOk_of_W 53 1 Try.func12 rfl rfl (Nat.le_of_ble_eq_true rfl) rfl (fun w X θ => ?_)
  refine W_seq ?_
  refine W_region ?_
  refine WO_step 1 [0] [0] True ⟨[(0, .one (.e (.sl 0 0 x1.length)))], [.row .u8 x1 false]⟩ (by kernel_rfl) trivial ?_
  refine WO_nil rfl ?_
  refine thenS_n ?_
  refine W_seq ?_
  refine W_seq ?_
  refine W_region ?_
  refine WO_step 3 [0] [0, 10] (True ∧ (True ∧ True)) ⟨[(0, .one (.e (.sl 0 0 x1.length))), (10, B (decide (1048576 < ((x1.length : Nat) : Int))))], [.row .u8 x1 false]⟩ (by kernel_rfl) ⟨trivial, trivial, trivial⟩ ?_
  refine WO_nil rfl ?_
  refine thenS_n ?_
  refine iteO_e h (fun hb103 h => W_true rfl hb103 ?_) (fun hb103 h => W_false rfl hb103 ?_)
  · refine W_seq ?_
    refine W_region ?_
    refine WO_step 1 [0] [2] True ⟨[(2, B true)], [.row .u8 x1 false]⟩ (by kernel_rfl) trivial ?_
    refine WO_nil rfl ?_
    refine thenS_n ?_
    refine W_ret ?_
    refine thenS_r ?_
    cases h
    exact ⟨[0], True, by kernel_rfl, trivial⟩
  · refine W_sub [0] [0] (st' := ⟨[(0, .one (.e (.sl 0 0 x1.length)))], [.row .u8 x1 false]⟩) (by kernel_rfl) ?_
    refine W_skip ?_
    refine thenS_n ?_
    refine W_seq ?_
    refine W_region ?_
    refine WO_step 1 [0] [12] True ⟨[(12, .one (.e (.sl 0 0 x1.length)))], [.row .u8 x1 false]⟩ (by kernel_rfl) trivial ?_
    refine bindO_e h (fun v217 hc106 h => ?_)
    obtain ⟨x104, i105⟩ := v217
    refine WO_call [.ro 0] Try.f31 rfl rfl rfl (by kernel_rfl) rfl rfl (by kernel_rfl) (spec_DrawAbortSet_ok n x1 x104 i105 hc106) (And.intro (And.intro rfl rfl) (trivial)) rfl ?_
    refine WO_step 5 [0, 1] [3, 4] True ⟨[(3, .one (.e (.sl 1 0 x104.length))), (4, I i105)], [.row .u8 x1 false, .row .acc x104 true]⟩ (by kernel_rfl) trivial ?_
    refine WO_nil rfl ?_
    refine thenS_n ?_
    refine W_seq ?_
    refine W_region ?_
    refine WO_step 2 [0, 1] [3, 4, 16, 17] True ⟨[(3, .one (.e (.sl 1 0 x104.length))), (4, I i105), (16, .one (.e (.sl 1 0 x104.length))), (17, I i105)], [.row .u8 x1 false, .row .acc x104 true]⟩ (by kernel_rfl) trivial ?_
    refine bindO_e h (fun x107 hc108 h => ?_)
    refine WO_call [.ro 1] Try.f32 rfl rfl rfl (by kernel_rfl) rfl rfl (by kernel_rfl) (impl_AbortSet_ok n x104 i105 x107 hc108) (And.intro (And.intro rfl rfl) (trivial)) rfl ?_
    refine WO_step 1 [0, 1, 2] [3, 4, 5] True ⟨[(3, .one (.e (.sl 1 0 x104.length))), (4, I i105), (5, .one (.e (.sl 2 0 x107.length)))], [.row .u8 x1 false, .row .acc x104 true, .row .int x107 true]⟩ (by kernel_rfl) trivial ?_
    refine WO_nil rfl ?_
    refine thenS_n ?_
    refine W_seq ?_
    refine W_seq ?_
    refine W_region ?_
    refine WO_step 3 [0, 1, 2] [3, 4, 5, 19, 20, 21] True ⟨[(3, .one (.e (.sl 1 0 x104.length))), (4, I i105), (5, .one (.e (.sl 2 0 x107.length))), (19, .one (.e (.sl 2 0 x107.length))), (20, .one (.e (.sl 1 0 x104.length))), (21, I i105)], [.row .u8 x1 false, .row .acc x104 true, .row .int x107 true]⟩ (by kernel_rfl) trivial ?_
    refine bindO_e h (fun x109 hc110 h => ?_)
    refine WO_call [.ro 1] Try.f33 rfl rfl rfl (by kernel_rfl) rfl rfl (by kernel_rfl) (spec_AbortSet_ok n x104 i105 x109 hc110) (And.intro (And.intro rfl rfl) (trivial)) rfl ?_
    refine WO_sub [0, 1, 2, 3] [3, 4, 5, 19, 22] (st' := ⟨[(3, .one (.e (.sl 1 0 x104.length))), (4, I i105), (5, .one (.e (.sl 2 0 x107.length))), (19, .one (.e (.sl 2 0 x107.length))), (22, .one (.e (.sl 3 0 x109.length)))], [.row .u8 x1 false, .row .acc x104 true, .row .int x107 true, .row .int x109 true]⟩) (by kernel_rfl) ?_
    refine bindO_e h (fun b111 hc112 h => ?_)
    refine WO_call [.ro 2, .ro 3] Try.f17 rfl rfl rfl (by kernel_rfl) rfl rfl (by kernel_rfl) (laws_equalInts_ok n x107 x109 b111 hc112) (And.intro (And.intro rfl rfl) (And.intro (And.intro rfl rfl) (trivial))) rfl ?_
    refine WO_step 2 [0, 1, 2] [3, 4, 5, 25] True ⟨[(3, .one (.e (.sl 1 0 x104.length))), (4, I i105), (5, .one (.e (.sl 2 0 x107.length))), (25, B (!b111))], [.row .u8 x1 false, .row .acc x104 true, .row .int x107 true]⟩ (by kernel_rfl) trivial ?_
    refine WO_thru ⟨[(3, .one (.e (.sl 1 0 x104.length))), (4, I i105), (5, .one (.e (.sl 2 0 x107.length))), (29, B ((!b111) || (decide (((x107.length : Nat) : Int) = 0))))], [.row .u8 x1 false, .row .acc x104 true, .row .int x107 true]⟩ ?_ ?_
    · refine WO_if 25 rfl (fun hb115 => ?_) (fun hb115 => ?_)
      · refine WO_step 4 [0, 1, 2] [3, 4, 5, 29] True ⟨[(3, .one (.e (.sl 1 0 x104.length))), (4, I i105), (5, .one (.e (.sl 2 0 x107.length))), (29, B true)], [.row .u8 x1 false, .row .acc x104 true, .row .int x107 true]⟩ (by kernel_rfl) trivial ?_
        exact WO_nil rfl ⟨rfl, by first | rfl | (rw [hb115]; first | done | rfl)⟩
      · refine WO_step 4 [0, 1, 2] [3, 4, 5, 29] (True ∧ (True ∧ True)) ⟨[(3, .one (.e (.sl 1 0 x104.length))), (4, I i105), (5, .one (.e (.sl 2 0 x107.length))), (29, B (decide (((x107.length : Nat) : Int) = 0)))], [.row .u8 x1 false, .row .acc x104 true, .row .int x107 true]⟩ (by kernel_rfl) ⟨trivial, trivial, trivial⟩ ?_
        exact WO_nil rfl ⟨rfl, by first | rfl | (rw [hb115]; first | done | rfl)⟩
    · refine thenS_n ?_
      refine iteO_e h (fun hb121 h => W_true rfl hb121 ?_) (fun hb121 h => W_false rfl hb121 ?_)
      · refine W_seq ?_
        refine W_region ?_
        refine WO_step 3 [0, 2, 1] [30, 31, 32] True ⟨[(30, .one (.e (.sl 1 0 x107.length))), (31, .one (.e (.sl 2 0 x104.length))), (32, I i105)], [.row .u8 x1 false, .row .int x107 true, .row .acc x104 true]⟩ (by kernel_rfl) trivial ?_
        refine bindO_e h (fun x122 hc123 h => ?_)
        refine WO_call [.ro 2] Try.f33 rfl rfl rfl (by kernel_rfl) rfl rfl (by kernel_rfl) (spec_AbortSet_ok n x104 i105 x122 hc123) (And.intro (And.intro rfl rfl) (trivial)) rfl ?_
        refine WO_sub [0, 1, 3] [30, 33] (st' := ⟨[(30, .one (.e (.sl 1 0 x107.length))), (33, .one (.e (.sl 2 0 x122.length)))], [.row .u8 x1 false, .row .int x107 true, .row .int x122 true]⟩) (by kernel_rfl) ?_
        refine bindO_e h (fun b124 hc125 h => ?_)
        refine WO_call [.ro 1, .ro 2] Try.f17 rfl rfl rfl (by kernel_rfl) rfl rfl (by kernel_rfl) (laws_equalInts_ok n x107 x122 b124 hc125) (And.intro (And.intro rfl rfl) (And.intro (And.intro rfl rfl) (trivial))) rfl ?_
        refine WO_step 1 [0] [2] True ⟨[(2, B b124)], [.row .u8 x1 false]⟩ (by kernel_rfl) trivial ?_
        refine WO_nil rfl ?_
        refine thenS_n ?_
        refine W_ret ?_
        refine thenS_r ?_
        cases h
        exact ⟨[0], True, by kernel_rfl, trivial⟩
      · refine W_sub [0, 1, 2] [3, 4, 5] (st' := ⟨[(3, .one (.e (.sl 1 0 x104.length))), (4, I i105), (5, .one (.e (.sl 2 0 x107.length)))], [.row .u8 x1 false, .row .acc x104 true, .row .int x107 true]⟩) (by kernel_rfl) ?_
        refine W_skip ?_
        refine thenS_n ?_
        refine W_seq ?_
        refine W_region ?_
        refine WO_step 1 [0, 1, 2] [3, 4, 5, 6] True ⟨[(3, .one (.e (.sl 1 0 x104.length))), (4, I i105), (5, .one (.e (.sl 2 0 x107.length))), (6, B false)], [.row .u8 x1 false, .row .acc x104 true, .row .int x107 true]⟩ (by kernel_rfl) trivial ?_
        refine WO_nil rfl ?_
        refine thenS_n ?_
        refine W_seq ?_
        refine W_seq ?_
        refine W_region ?_
        refine WO_step 1 [0, 1, 2] [3, 4, 5, 6, 7] True ⟨[(3, .one (.e (.sl 1 0 x104.length))), (4, I i105), (5, .one (.e (.sl 2 0 x107.length))), (6, B false), (7, I 0)], [.row .u8 x1 false, .row .acc x104 true, .row .int x107 true]⟩ (by kernel_rfl) trivial ?_
        refine WO_nil rfl ?_
        refine thenS_n ?_
        refine W_block ?_
        refine W_loop ?_
        refine bindO_e h (fun b188 hb188 h => ?_)
        refine WL_cut (laws_FnAbortSetNone_L1_ok w X θ x104 i105 x107 x1 b188 n false 0 hb188) ?_
        rintro _ _ ⟨rfl, rfl⟩
        refine blockS_y ?_
        refine thenS_n ?_
        refine W_seq ?_
        refine W_region ?_
        refine WO_step 7 [0] [2] (True ∧ (True ∧ (True ∧ True))) ⟨[(2, B ((decide (((x107.length : Nat) : Int) = 1)) == (!b188)))], [.row .u8 x1 false]⟩ (by kernel_rfl) ⟨trivial, trivial, trivial, trivial⟩ ?_
        refine WO_nil rfl ?_
        refine thenS_n ?_
        refine W_ret ?_
        cases h
        exact ⟨[0], True, by kernel_rfl, trivial⟩

/- laws.FnMayCommitSet -/
def laws_FnMayCommitSet_L1 (x186 : List Acc) (i188 : Int) (x1 : List Int) : Nat → Int → Option ((Unit) ⊕ (Unit))
| 0, _ => none
| n + 1, i261 =>
 iteO (decide (i261 < 4))
 (bindO (iteO (!decide (i261 = i188))
 (bindO (impl_AbortSet n x186 i261) fun x353 =>
 bindO (laws_isIn n x353 i188) fun b355 =>
 iteO (!b355)
 (bindO (impl_ReadsFrom n x186 i188) fun x358 =>
 bindO (laws_isIn n x358 i261) fun b360 =>
 some b360)
 (some false))
 (some false)) fun b350 =>
 iteO b350
 (some (.inl ()))
 (laws_FnMayCommitSet_L1 x186 i188 x1 n (w64 (i261 + 1))))
 (some (.inr ()))

theorem laws_FnMayCommitSet_L1_ok (w : World) (X : Nat → Prop) (θ : List Loc) (x186 : List Acc) (i188 : Int) (x1 : List Int) (v : (Unit) ⊕ (Unit)) : ∀ (n : Nat) (i261 : Int), laws_FnMayCommitSet_L1 x186 i188 x1 n i261 = some v → WL EE ⟨w, X, θ, 60, 1⟩ (subC [1, 1, 1, 1, 1, 0, 1, 4, 4] (bodyC Try.f13)) (fun (e : Exit) (s : St) => (match v with | (.inl _) => e = .ret ∧ s = ⟨[(2, B false)], [.row .u8 x1 false]⟩ | (.inr _) => e = .exit 0 ∧ s = ⟨[], [.row .u8 x1 false]⟩ : Prop)) ⟨[(3, .one (.e (.sl 1 0 x186.length))), (4, I i188), (7, I i261)], [.row .u8 x1 false, .row .acc x186 true]⟩ := by
  intro n
  induction n with
  | zero => intro _ h; exact none_e h
  | succ n ih =>
    intro i261 h
    rw [laws_FnMayCommitSet_L1] at h
    refine WL_round ?_
    refine W_seq ?_
    refine W_seq ?_
    refine W_region ?_
    refine WO_step 2 [0, 1] [3, 4, 7, 39] (True ∧ True) ⟨[(3, .one (.e (.sl 1 0 x186.length))), (4, I i188), (7, I i261), (39, B (decide (i261 < 4)))], [.row .u8 x1 false, .row .acc x186 true]⟩ (by kernel_rfl) ⟨trivial, trivial⟩ ?_
    refine WO_nil rfl ?_
    refine thenS_n ?_
    refine iteO_e h (fun hb315 h => W_true rfl hb315 ?_) (fun hb315 h => W_false rfl hb315 ?_)
    · refine W_sub [0, 1] [3, 4, 7] (st' := ⟨[(3, .one (.e (.sl 1 0 x186.length))), (4, I i188), (7, I i261)], [.row .u8 x1 false, .row .acc x186 true]⟩) (by kernel_rfl) ?_
      refine W_skip ?_
      refine thenS_n ?_
      refine W_seq ?_
      refine W_block ?_
      refine W_seq ?_
      refine W_region ?_
      refine WO_step 4 [0, 1] [3, 4, 7, 45] (True ∧ True) ⟨[(3, .one (.e (.sl 1 0 x186.length))), (4, I i188), (7, I i261), (45, B (!decide (i261 = i188)))], [.row .u8 x1 false, .row .acc x186 true]⟩ (by kernel_rfl) ⟨trivial, trivial⟩ ?_
      refine bindO_e h (fun b350 hv351 h => ?_)
      refine WO_thru ⟨[(3, .one (.e (.sl 1 0 x186.length))), (4, I i188), (7, I i261), (59, B b350)], [.row .u8 x1 false, .row .acc x186 true]⟩ ?_ ?_
      · refine iteO_e hv351 (fun hb352 hv351 => WO_known 45 true rfl hb352 ?_) (fun hb352 hv351 => WO_known 45 false rfl hb352 ?_)
        · refine WO_step 2 [0, 1] [3, 4, 7, 45, 46, 47] True ⟨[(3, .one (.e (.sl 1 0 x186.length))), (4, I i188), (7, I i261), (45, B true), (46, .one (.e (.sl 1 0 x186.length))), (47, I i261)], [.row .u8 x1 false, .row .acc x186 true]⟩ (by kernel_rfl) trivial ?_
          refine bindO_e hv351 (fun x353 hc354 hv351 => ?_)
          refine WO_call [.ro 1] Try.f32 rfl rfl rfl (by kernel_rfl) rfl rfl (by kernel_rfl) (impl_AbortSet_ok n x186 i261 x353 hc354) (And.intro (And.intro rfl rfl) (trivial)) rfl ?_
          refine WO_step 1 [0, 1, 2] [3, 4, 7, 45, 48, 49] True ⟨[(3, .one (.e (.sl 1 0 x186.length))), (4, I i188), (7, I i261), (45, B true), (48, .one (.e (.sl 2 0 x353.length))), (49, I i188)], [.row .u8 x1 false, .row .acc x186 true, .row .int x353 true]⟩ (by kernel_rfl) trivial ?_
          refine bindO_e hv351 (fun b355 hc356 hv351 => ?_)
          refine WO_call [.ro 2] Try.f20 rfl rfl rfl (by kernel_rfl) rfl rfl (by kernel_rfl) (laws_isIn_ok n x353 i188 b355 hc356) (And.intro (And.intro rfl rfl) (trivial)) rfl ?_
          refine WO_step 3 [0, 1] [3, 4, 7, 53] True ⟨[(3, .one (.e (.sl 1 0 x186.length))), (4, I i188), (7, I i261), (53, B (!b355))], [.row .u8 x1 false, .row .acc x186 true]⟩ (by kernel_rfl) trivial ?_
          refine iteO_e hv351 (fun hb357 hv351 => WO_known 53 true rfl hb357 ?_) (fun hb357 hv351 => WO_known 53 false rfl hb357 ?_)
          · refine WO_step 2 [0, 1] [3, 4, 7, 53, 54, 55] True ⟨[(3, .one (.e (.sl 1 0 x186.length))), (4, I i188), (7, I i261), (53, B true), (54, .one (.e (.sl 1 0 x186.length))), (55, I i188)], [.row .u8 x1 false, .row .acc x186 true]⟩ (by kernel_rfl) trivial ?_
            refine bindO_e hv351 (fun x358 hc359 hv351 => ?_)
            refine WO_call [.ro 1] Try.f16 rfl rfl rfl (by kernel_rfl) rfl rfl (by kernel_rfl) (impl_ReadsFrom_ok n x186 i188 x358 hc359) (And.intro (And.intro rfl rfl) (trivial)) rfl ?_
            refine WO_step 1 [0, 1, 2] [3, 4, 7, 53, 56, 57] True ⟨[(3, .one (.e (.sl 1 0 x186.length))), (4, I i188), (7, I i261), (53, B true), (56, .one (.e (.sl 2 0 x358.length))), (57, I i261)], [.row .u8 x1 false, .row .acc x186 true, .row .int x358 true]⟩ (by kernel_rfl) trivial ?_
            refine bindO_e hv351 (fun b360 hc361 hv351 => ?_)
            refine WO_call [.ro 2] Try.f20 rfl rfl rfl (by kernel_rfl) rfl rfl (by kernel_rfl) (laws_isIn_ok n x358 i261 b360 hc361) (And.intro (And.intro rfl rfl) (trivial)) rfl ?_
            refine WO_step 1 [0, 1] [3, 4, 7, 59] True ⟨[(3, .one (.e (.sl 1 0 x186.length))), (4, I i188), (7, I i261), (59, B b360)], [.row .u8 x1 false, .row .acc x186 true]⟩ (by kernel_rfl) trivial ?_
            cases hv351
            exact WO_nil rfl ⟨rfl, rfl⟩
          · refine WO_step 6 [0, 1] [3, 4, 7, 59] True ⟨[(3, .one (.e (.sl 1 0 x186.length))), (4, I i188), (7, I i261), (59, B false)], [.row .u8 x1 false, .row .acc x186 true]⟩ (by kernel_rfl) trivial ?_
            cases hv351
            exact WO_nil rfl ⟨rfl, rfl⟩
        · refine WO_step 14 [0, 1] [3, 4, 7, 59] True ⟨[(3, .one (.e (.sl 1 0 x186.length))), (4, I i188), (7, I i261), (59, B false)], [.row .u8 x1 false, .row .acc x186 true]⟩ (by kernel_rfl) trivial ?_
          cases hv351
          exact WO_nil rfl ⟨rfl, rfl⟩
      · refine thenS_n ?_
        refine iteO_e h (fun hb363 h => W_true rfl hb363 ?_) (fun hb363 h => W_false rfl hb363 ?_)
        · refine W_seq ?_
          refine W_region ?_
          refine WO_step 1 [0] [2] True ⟨[(2, B false)], [.row .u8 x1 false]⟩ (by kernel_rfl) trivial ?_
          refine WO_nil rfl ?_
          refine thenS_n ?_
          refine W_ret ?_
          refine blockS_r ?_
          refine thenS_r ?_
          refine thenS_r ?_
          cases h
          exact And.intro rfl rfl
        · refine W_sub [0, 1] [3, 4, 7] (st' := ⟨[(3, .one (.e (.sl 1 0 x186.length))), (4, I i188), (7, I i261)], [.row .u8 x1 false, .row .acc x186 true]⟩) (by kernel_rfl) ?_
          refine W_skip ?_
          refine blockS_n ?_
          refine thenS_n ?_
          refine W_region ?_
          refine WO_step 3 [0, 1] [3, 4, 7] (True ∧ True) ⟨[(3, .one (.e (.sl 1 0 x186.length))), (4, I i188), (7, I (w64 (i261 + 1)))], [.row .u8 x1 false, .row .acc x186 true]⟩ (by kernel_rfl) ⟨trivial, trivial⟩ ?_
          refine WO_nil rfl ?_
          refine thenS_n ?_
          exact ih _ h
    · refine W_sub [0] [] (st' := ⟨[], [.row .u8 x1 false]⟩) (by kernel_rfl) ?_
      refine W_exit ?_
      refine thenS_e ?_
      refine thenS_e ?_
      cases h
      exact And.intro rfl rfl

def laws_FnMayCommitSet (n : Nat) (x1 : List Int) : Option (Bool) :=
 iteO (decide (1048576 < ((x1.length : Nat) : Int)))
 (some true)
 (bindO (spec_DrawMayCommit n x1) fun (x186, x187, i188) =>
 bindO (impl_MayCommit n x186 i188 x187) fun b190 =>
 bindO (spec_MayCommit n x186 i188 x187) fun b192 =>
 bindO (iteO (!(b190 == b192))
 (some true)
 (bindO (impl_ValidAccesses n x186) fun b200 =>
 some (!b200))) fun b197 =>
 iteO b197
 (bindO (spec_MayCommit n x186 i188 x187) fun b206 =>
 some (b190 == b206))
 (bindO (laws_FnMayCommitSet_L1 x186 i188 x1 n 0) fun v364 =>
 match v364 with
 | (.inl _) => (some false)
 | (.inr _) => (some true)
))

theorem laws_FnMayCommitSet_ok (n : Nat) (x1 : List Int) (b183 : Bool) (h : laws_FnMayCommitSet n x1 = some b183) : FOk EE 13 [.one (.e (.sl 0 0 x1.length))] [.row .u8 x1 false] (B b183) [.row .u8 x1 false] := by
  unfold laws_FnMayCommitSet at h
  refine FOk_of_W 60 1 Try.func13 rfl rfl (Nat.le_of_ble_eq_true rfl) rfl (fun w X θ => ?_)
  refine W_seq ?_
  refine W_region ?_
  refine WO_step 1 [0] [0] True ⟨[(0, .one (.e (.sl 0 0 x1.length)))], [.row .u8 x1 false]⟩ (by kernel_rfl) trivial ?_
  refine WO_nil rfl ?_
  refine thenS_n ?_
  refine W_seq ?_
  refine W_seq ?_
  refine W_region ?_
  refine WO_step 3 [0] [0, 10] (True ∧ (True ∧ True)) ⟨[(0, .one (.e (.sl 0 0 x1.length))), (10, B (decide (1048576 < ((x1.length : Nat) : Int))))], [.row .u8 x1 false]⟩ (by kernel_rfl) ⟨trivial, trivial, trivial⟩ ?_
  refine WO_nil rfl ?_
  refine thenS_n ?_
  refine iteO_e h (fun hb185 h => W_true rfl hb185 ?_) (fun hb185 h => W_false rfl hb185 ?_)
  · refine W_seq ?_
    refine W_region ?_
    refine WO_step 1 [0] [2] True ⟨[(2, B true)], [.row .u8 x1 false]⟩ (by kernel_rfl) trivial ?_
    refine WO_nil rfl ?_
    refine thenS_n ?_
    refine W_ret ?_
    refine thenS_r ?_
    cases h
    exact ⟨[0], True, by kernel_rfl, trivial⟩
  · refine W_sub [0] [0] (st' := ⟨[(0, .one (.e (.sl 0 0 x1.length)))], [.row .u8 x1 false]⟩) (by kernel_rfl) ?_
    refine W_skip ?_
    refine thenS_n ?_
    refine W_seq ?_
    refine W_region ?_
    refine WO_step 1 [0] [12] True ⟨[(12, .one (.e (.sl 0 0 x1.length)))], [.row .u8 x1 false]⟩ (by kernel_rfl) trivial ?_
    refine bindO_e h (fun v365 hc189 h => ?_)
    obtain ⟨x186, x187, i188⟩ := v365
    refine WO_call [.ro 0] Try.f21 rfl rfl rfl (by kernel_rfl) rfl rfl (by kernel_rfl) (spec_DrawMayCommit_ok n x1 x186 x187 i188 hc189) (And.intro (And.intro rfl rfl) (trivial)) rfl ?_
    refine WO_step 7 [0, 1, 2] [3, 4, 5] True ⟨[(3, .one (.e (.sl 1 0 x186.length))), (4, I i188), (5, .one (.e (.sl 2 0 x187.length)))], [.row .u8 x1 false, .row .acc x186 true, .row .int x187 true]⟩ (by kernel_rfl) trivial ?_
    refine WO_nil rfl ?_
    refine thenS_n ?_
    refine W_seq ?_
    refine W_region ?_
    refine WO_step 3 [0, 1, 2] [3, 4, 5, 17, 18, 19] True ⟨[(3, .one (.e (.sl 1 0 x186.length))), (4, I i188), (5, .one (.e (.sl 2 0 x187.length))), (17, .one (.e (.sl 1 0 x186.length))), (18, I i188), (19, .one (.e (.sl 2 0 x187.length)))], [.row .u8 x1 false, .row .acc x186 true, .row .int x187 true]⟩ (by kernel_rfl) trivial ?_
    refine bindO_e h (fun b190 hc191 h => ?_)
    refine WO_call [.ro 1, .ro 2] Try.f22 rfl rfl rfl (by kernel_rfl) rfl rfl (by kernel_rfl) (impl_MayCommit_ok n x186 i188 x187 b190 hc191) (And.intro (And.intro rfl rfl) (And.intro (And.intro rfl rfl) (trivial))) rfl ?_
    refine WO_step 1 [0, 1, 2] [3, 4, 5, 6] True ⟨[(3, .one (.e (.sl 1 0 x186.length))), (4, I i188), (5, .one (.e (.sl 2 0 x187.length))), (6, B b190)], [.row .u8 x1 false, .row .acc x186 true, .row .int x187 true]⟩ (by kernel_rfl) trivial ?_
    refine WO_nil rfl ?_
    refine thenS_n ?_
    refine W_seq ?_
    refine W_seq ?_
    refine W_region ?_
    refine WO_step 4 [0, 1, 2] [3, 4, 5, 6, 21, 22, 23, 24] True ⟨[(3, .one (.e (.sl 1 0 x186.length))), (4, I i188), (5, .one (.e (.sl 2 0 x187.length))), (6, B b190), (21, B b190), (22, .one (.e (.sl 1 0 x186.length))), (23, I i188), (24, .one (.e (.sl 2 0 x187.length)))], [.row .u8 x1 false, .row .acc x186 true, .row .int x187 true]⟩ (by kernel_rfl) trivial ?_
    refine bindO_e h (fun b192 hc193 h => ?_)
    refine WO_call [.ro 1, .ro 2] Try.f23 rfl rfl rfl (by kernel_rfl) rfl rfl (by kernel_rfl) (spec_MayCommit_ok n x186 i188 x187 b192 hc193) (And.intro (And.intro rfl rfl) (And.intro (And.intro rfl rfl) (trivial))) rfl ?_
    refine WO_step 2 [0, 1, 2] [3, 4, 5, 6, 27] (True ∧ True) ⟨[(3, .one (.e (.sl 1 0 x186.length))), (4, I i188), (5, .one (.e (.sl 2 0 x187.length))), (6, B b190), (27, B (!(b190 == b192)))], [.row .u8 x1 false, .row .acc x186 true, .row .int x187 true]⟩ (by kernel_rfl) ⟨trivial, trivial⟩ ?_
    refine bindO_e h (fun b197 hv198 h => ?_)
    refine WO_thru ⟨[(3, .one (.e (.sl 1 0 x186.length))), (4, I i188), (5, .one (.e (.sl 2 0 x187.length))), (6, B b190), (31, B b197)], [.row .u8 x1 false, .row .acc x186 true, .row .int x187 true]⟩ ?_ ?_
    · refine iteO_e hv198 (fun hb199 hv198 => WO_known 27 true rfl hb199 ?_) (fun hb199 hv198 => WO_known 27 false rfl hb199 ?_)
      · refine WO_step 4 [0, 1, 2] [3, 4, 5, 6, 31] True ⟨[(3, .one (.e (.sl 1 0 x186.length))), (4, I i188), (5, .one (.e (.sl 2 0 x187.length))), (6, B b190), (31, B true)], [.row .u8 x1 false, .row .acc x186 true, .row .int x187 true]⟩ (by kernel_rfl) trivial ?_
        cases hv198
        exact WO_nil rfl ⟨rfl, rfl⟩
      · refine WO_step 1 [0, 1, 2] [3, 4, 5, 6, 27, 28] True ⟨[(3, .one (.e (.sl 1 0 x186.length))), (4, I i188), (5, .one (.e (.sl 2 0 x187.length))), (6, B b190), (27, B false), (28, .one (.e (.sl 1 0 x186.length)))], [.row .u8 x1 false, .row .acc x186 true, .row .int x187 true]⟩ (by kernel_rfl) trivial ?_
        refine bindO_e hv198 (fun b200 hc201 hv198 => ?_)
        refine WO_call [.ro 1] Try.f19 rfl rfl rfl (by kernel_rfl) rfl rfl (by kernel_rfl) (impl_ValidAccesses_ok n x186 b200 hc201) (And.intro (And.intro rfl rfl) (trivial)) rfl ?_
        refine WO_step 2 [0, 1, 2] [3, 4, 5, 6, 31] True ⟨[(3, .one (.e (.sl 1 0 x186.length))), (4, I i188), (5, .one (.e (.sl 2 0 x187.length))), (6, B b190), (31, B (!b200))], [.row .u8 x1 false, .row .acc x186 true, .row .int x187 true]⟩ (by kernel_rfl) trivial ?_
        cases hv198
        exact WO_nil rfl ⟨rfl, rfl⟩
    · refine thenS_n ?_
      refine iteO_e h (fun hb205 h => W_true rfl hb205 ?_) (fun hb205 h => W_false rfl hb205 ?_)
      · refine W_seq ?_
        refine W_region ?_
        refine WO_step 4 [0, 1, 2] [32, 33, 34, 35] True ⟨[(32, B b190), (33, .one (.e (.sl 1 0 x186.length))), (34, I i188), (35, .one (.e (.sl 2 0 x187.length)))], [.row .u8 x1 false, .row .acc x186 true, .row .int x187 true]⟩ (by kernel_rfl) trivial ?_
        refine bindO_e h (fun b206 hc207 h => ?_)
        refine WO_call [.ro 1, .ro 2] Try.f23 rfl rfl rfl (by kernel_rfl) rfl rfl (by kernel_rfl) (spec_MayCommit_ok n x186 i188 x187 b206 hc207) (And.intro (And.intro rfl rfl) (And.intro (And.intro rfl rfl) (trivial))) rfl ?_
        refine WO_step 2 [0] [2] (True ∧ True) ⟨[(2, B (b190 == b206))], [.row .u8 x1 false]⟩ (by kernel_rfl) ⟨trivial, trivial⟩ ?_
        refine WO_nil rfl ?_
        refine thenS_n ?_
        refine W_ret ?_
        refine thenS_r ?_
        cases h
        exact ⟨[0], True, by kernel_rfl, trivial⟩
      · refine W_sub [0, 1] [3, 4] (st' := ⟨[(3, .one (.e (.sl 1 0 x186.length))), (4, I i188)], [.row .u8 x1 false, .row .acc x186 true]⟩) (by kernel_rfl) ?_
        refine W_skip ?_
        refine thenS_n ?_
        refine W_seq ?_
        refine W_seq ?_
        refine W_region ?_
        refine WO_step 1 [0, 1] [3, 4, 7] True ⟨[(3, .one (.e (.sl 1 0 x186.length))), (4, I i188), (7, I 0)], [.row .u8 x1 false, .row .acc x186 true]⟩ (by kernel_rfl) trivial ?_
        refine WO_nil rfl ?_
        refine thenS_n ?_
        refine W_block ?_
        refine W_loop ?_
        refine bindO_e h (fun v364 hv364 h => ?_)
        refine WL_cut (laws_FnMayCommitSet_L1_ok w X θ x186 i188 x1 v364 n 0 hv364) ?_
        rcases v364 with _ | _
        · rintro _ _ ⟨rfl, rfl⟩
          refine blockS_r ?_
          refine thenS_r ?_
          cases h
          exact ⟨[0], True, by kernel_rfl, trivial⟩
        · rintro _ _ ⟨rfl, rfl⟩
          refine blockS_y ?_
          refine thenS_n ?_
          refine W_seq ?_
          refine W_region ?_
          refine WO_step 1 [0] [2] True ⟨[(2, B true)], [.row .u8 x1 false]⟩ (by kernel_rfl) trivial ?_
          refine WO_nil rfl ?_
          refine thenS_n ?_
          refine W_ret ?_
          cases h
          exact ⟨[0], True, by kernel_rfl, trivial⟩

/- laws.FnExactAbortSet -/
def laws_FnExactAbortSet (n : Nat) (x1 : List Acc) (i2 : Int) : Option (Bool) :=
 bindO (laws_szAccessS x1 1048576) fun i66 =>
 iteO (decide (i66 < 0))
 (some true)
 (bindO (laws_toAccessS n x1) fun x70 =>
 bindO (spec_AbortSet n x70 i2) fun x72 =>
 bindO (laws_toAccessS n x1) fun x74 =>
 bindO (impl_AbortSet n x74 i2) fun x76 =>
 bindO (laws_eqIntS n x76 x72) fun b78 =>
 iteO (!b78)
 (some false)
 (bindO (laws_toAccessS n x1) fun x82 =>
 bindO (laws_eqAccessS n x74 x82) fun b84 =>
 iteO (!b84)
 (some false)
 (bindO (laws_markAccessS n x74 x74.length 1) fun (x88, i89) =>
 guardO (x74.length = x88.length) <|
 bindO (iteO (decide (i89 < 0))
 (some true)
 (bindO (laws_eqIntS n x76 x72) fun b98 =>
 some (!b98))) fun b95 =>
 iteO b95
 (some false)
 (bindO (laws_markIntS n x76 x76.length 1) fun (x102, i103) =>
 guardO (x76.length = x102.length) <|
 bindO (laws_heldIntS n x102 1) fun i106 =>
 iteO (decide (i106 < 0))
 (some false)
 (iteO (!decide (i106 = i103))
 (some false)
 (bindO (laws_toAccessS n x1) fun x112 =>
 bindO (impl_AbortSet n x112 i2) fun x114 =>
 bindO (laws_eqIntS n x114 x72) fun b116 =>
 iteO (!b116)
 (some false)
 (bindO (laws_heldIntS n x102 1) fun i120 =>
 iteO (decide (i120 < 0))
 (some false)
 (iteO (!decide (i120 = i103))
 (some false)
 (some true)))))))))

theorem laws_FnExactAbortSet_ok (n : Nat) (x1 : List Acc) (i2 : Int) (b65 : Bool) (h : laws_FnExactAbortSet n x1 i2 = some b65) : FOk EE 14 [.one (.e (.sl 0 0 x1.length)), I i2] [.row .acc x1 false] (B b65) [.row .acc x1 false] := by
  unfold laws_FnExactAbortSet at h
  refine FOk_of_W 74 1 Try.func14 rfl rfl (Nat.le_of_ble_eq_true rfl) rfl (fun w X θ => ?_)
  refine W_seq ?_
  refine W_region ?_
  refine WO_step 1 [0] [0, 1] True ⟨[(0, .one (.e (.sl 0 0 x1.length))), (1, I i2)], [.row .acc x1 false]⟩ (by kernel_rfl) trivial ?_
  refine WO_nil rfl ?_
  refine thenS_n ?_
  refine W_seq ?_
  refine W_region ?_
  refine WO_step 1 [0] [0, 1, 5] True ⟨[(0, .one (.e (.sl 0 0 x1.length))), (1, I i2), (5, I 1048576)], [.row .acc x1 false]⟩ (by kernel_rfl) trivial ?_
  refine WO_nil rfl ?_
  refine thenS_n ?_
  refine W_seq ?_
  refine W_region ?_
  refine WO_step 2 [0] [0, 1, 13, 14] True ⟨[(0, .one (.e (.sl 0 0 x1.length))), (1, I i2), (13, .one (.e (.sl 0 0 x1.length))), (14, I 1048576)], [.row .acc x1 false]⟩ (by kernel_rfl) trivial ?_
  refine bindO_e h (fun i66 hc67 h => ?_)
  refine WO_call [.ro 0] Try.f24 rfl rfl rfl (by kernel_rfl) rfl rfl (by kernel_rfl) (laws_szAccessS_ok x1 1048576 i66 hc67) (And.intro (And.intro rfl rfl) (trivial)) rfl ?_
  refine WO_step 1 [0] [0, 1, 5] True ⟨[(0, .one (.e (.sl 0 0 x1.length))), (1, I i2), (5, I i66)], [.row .acc x1 false]⟩ (by kernel_rfl) trivial ?_
  refine WO_nil rfl ?_
  refine thenS_n ?_
  refine W_seq ?_
  refine W_seq ?_
  refine W_region ?_
  refine WO_step 2 [0] [0, 1, 17] (True ∧ True) ⟨[(0, .one (.e (.sl 0 0 x1.length))), (1, I i2), (17, B (decide (i66 < 0)))], [.row .acc x1 false]⟩ (by kernel_rfl) ⟨trivial, trivial⟩ ?_
  refine WO_nil rfl ?_
  refine thenS_n ?_
  refine iteO_e h (fun hb69 h => W_true rfl hb69 ?_) (fun hb69 h => W_false rfl hb69 ?_)
  · refine W_seq ?_
    refine W_region ?_
    refine WO_step 1 [0] [4] True ⟨[(4, B true)], [.row .acc x1 false]⟩ (by kernel_rfl) trivial ?_
    refine WO_nil rfl ?_
    refine thenS_n ?_
    refine W_ret ?_
    refine thenS_r ?_
    cases h
    exact ⟨[0], True, by kernel_rfl, trivial⟩
  · refine W_sub [0] [0, 1] (st' := ⟨[(0, .one (.e (.sl 0 0 x1.length))), (1, I i2)], [.row .acc x1 false]⟩) (by kernel_rfl) ?_
    refine W_skip ?_
    refine thenS_n ?_
    refine W_seq ?_
    refine W_region ?_
    refine WO_step 1 [0] [0, 1, 18] True ⟨[(0, .one (.e (.sl 0 0 x1.length))), (1, I i2), (18, .one (.e (.sl 0 0 x1.length)))], [.row .acc x1 false]⟩ (by kernel_rfl) trivial ?_
    refine bindO_e h (fun x70 hc71 h => ?_)
    refine WO_call [.ro 0] Try.f25 rfl rfl rfl (by kernel_rfl) rfl rfl (by kernel_rfl) (laws_toAccessS_ok n x1 x70 hc71) (And.intro (And.intro rfl rfl) (trivial)) rfl ?_
    refine WO_step 1 [0, 1] [0, 1, 19, 20] True ⟨[(0, .one (.e (.sl 0 0 x1.length))), (1, I i2), (19, .one (.e (.sl 1 0 x70.length))), (20, I i2)], [.row .acc x1 false, .row .acc x70 true]⟩ (by kernel_rfl) trivial ?_
    refine bindO_e h (fun x72 hc73 h => ?_)
    refine WO_call [.ro 1] Try.f33 rfl rfl rfl (by kernel_rfl) rfl rfl (by kernel_rfl) (spec_AbortSet_ok n x70 i2 x72 hc73) (And.intro (And.intro rfl rfl) (trivial)) rfl ?_
    refine WO_step 1 [0, 2] [0, 1, 6] True ⟨[(0, .one (.e (.sl 0 0 x1.length))), (1, I i2), (6, .one (.e (.sl 1 0 x72.length)))], [.row .acc x1 false, .row .int x72 true]⟩ (by kernel_rfl) trivial ?_
    refine WO_nil rfl ?_
    refine thenS_n ?_
    refine W_seq ?_
    refine W_region ?_
    refine WO_step 1 [0, 1] [0, 1, 6, 22] True ⟨[(0, .one (.e (.sl 0 0 x1.length))), (1, I i2), (6, .one (.e (.sl 1 0 x72.length))), (22, .one (.e (.sl 0 0 x1.length)))], [.row .acc x1 false, .row .int x72 true]⟩ (by kernel_rfl) trivial ?_
    refine bindO_e h (fun x74 hc75 h => ?_)
    refine WO_call [.ro 0] Try.f25 rfl rfl rfl (by kernel_rfl) rfl rfl (by kernel_rfl) (laws_toAccessS_ok n x1 x74 hc75) (And.intro (And.intro rfl rfl) (trivial)) rfl ?_
    refine WO_step 1 [0, 1, 2] [0, 1, 6, 7] True ⟨[(0, .one (.e (.sl 0 0 x1.length))), (1, I i2), (6, .one (.e (.sl 1 0 x72.length))), (7, .one (.e (.sl 2 0 x74.length)))], [.row .acc x1 false, .row .int x72 true, .row .acc x74 true]⟩ (by kernel_rfl) trivial ?_
    refine WO_nil rfl ?_
    refine thenS_n ?_
    refine W_seq ?_
    refine W_region ?_
    refine WO_step 2 [0, 1, 2] [0, 1, 6, 7, 24, 25] True ⟨[(0, .one (.e (.sl 0 0 x1.length))), (1, I i2), (6, .one (.e (.sl 1 0 x72.length))), (7, .one (.e (.sl 2 0 x74.length))), (24, .one (.e (.sl 2 0 x74.length))), (25, I i2)], [.row .acc x1 false, .row .int x72 true, .row .acc x74 true]⟩ (by kernel_rfl) trivial ?_
    refine bindO_e h (fun x76 hc77 h => ?_)
    refine WO_call [.ro 2] Try.f32 rfl rfl rfl (by kernel_rfl) rfl rfl (by kernel_rfl) (impl_AbortSet_ok n x74 i2 x76 hc77) (And.intro (And.intro rfl rfl) (trivial)) rfl ?_
    refine WO_step 1 [0, 1, 2, 3] [0, 1, 6, 7, 8] True ⟨[(0, .one (.e (.sl 0 0 x1.length))), (1, I i2), (6, .one (.e (.sl 1 0 x72.length))), (7, .one (.e (.sl 2 0 x74.length))), (8, .one (.e (.sl 3 0 x76.length)))], [.row .acc x1 false, .row .int x72 true, .row .acc x74 true, .row .int x76 true]⟩ (by kernel_rfl) trivial ?_
    refine WO_nil rfl ?_
    refine thenS_n ?_
    refine W_seq ?_
    refine W_seq ?_
    refine W_region ?_
    refine WO_step 2 [0, 1, 2, 3] [0, 1, 6, 7, 8, 27, 28] True ⟨[(0, .one (.e (.sl 0 0 x1.length))), (1, I i2), (6, .one (.e (.sl 1 0 x72.length))), (7, .one (.e (.sl 2 0 x74.length))), (8, .one (.e (.sl 3 0 x76.length))), (27, .one (.e (.sl 3 0 x76.length))), (28, .one (.e (.sl 1 0 x72.length)))], [.row .acc x1 false, .row .int x72 true, .row .acc x74 true, .row .int x76 true]⟩ (by kernel_rfl) trivial ?_
    refine bindO_e h (fun b78 hc79 h => ?_)
    refine WO_call [.ro 3, .ro 1] Try.f26 rfl rfl rfl (by kernel_rfl) rfl rfl (by kernel_rfl) (laws_eqIntS_ok n x76 x72 b78 hc79) (And.intro (And.intro rfl rfl) (And.intro (And.intro rfl rfl) (trivial))) rfl ?_
    refine WO_step 1 [0, 1, 2, 3] [0, 1, 6, 7, 8, 30] True ⟨[(0, .one (.e (.sl 0 0 x1.length))), (1, I i2), (6, .one (.e (.sl 1 0 x72.length))), (7, .one (.e (.sl 2 0 x74.length))), (8, .one (.e (.sl 3 0 x76.length))), (30, B (!b78))], [.row .acc x1 false, .row .int x72 true, .row .acc x74 true, .row .int x76 true]⟩ (by kernel_rfl) trivial ?_
    refine WO_nil rfl ?_
    refine thenS_n ?_
    refine iteO_e h (fun hb81 h => W_true rfl hb81 ?_) (fun hb81 h => W_false rfl hb81 ?_)
    · refine W_seq ?_
      refine W_region ?_
      refine WO_step 1 [0] [4] True ⟨[(4, B false)], [.row .acc x1 false]⟩ (by kernel_rfl) trivial ?_
      refine WO_nil rfl ?_
      refine thenS_n ?_
      refine W_ret ?_
      refine thenS_r ?_
      cases h
      exact ⟨[0], True, by kernel_rfl, trivial⟩
    · refine W_sub [0, 1, 2, 3] [0, 1, 6, 7, 8] (st' := ⟨[(0, .one (.e (.sl 0 0 x1.length))), (1, I i2), (6, .one (.e (.sl 1 0 x72.length))), (7, .one (.e (.sl 2 0 x74.length))), (8, .one (.e (.sl 3 0 x76.length)))], [.row .acc x1 false, .row .int x72 true, .row .acc x74 true, .row .int x76 true]⟩) (by kernel_rfl) ?_
      refine W_skip ?_
      refine thenS_n ?_
      refine W_seq ?_
      refine W_seq ?_
      refine W_region ?_
      refine WO_step 2 [0, 1, 2, 3] [0, 1, 6, 7, 8, 31, 32] True ⟨[(0, .one (.e (.sl 0 0 x1.length))), (1, I i2), (6, .one (.e (.sl 1 0 x72.length))), (7, .one (.e (.sl 2 0 x74.length))), (8, .one (.e (.sl 3 0 x76.length))), (31, .one (.e (.sl 2 0 x74.length))), (32, .one (.e (.sl 0 0 x1.length)))], [.row .acc x1 false, .row .int x72 true, .row .acc x74 true, .row .int x76 true]⟩ (by kernel_rfl) trivial ?_
      refine bindO_e h (fun x82 hc83 h => ?_)
      refine WO_call [.ro 0] Try.f25 rfl rfl rfl (by kernel_rfl) rfl rfl (by kernel_rfl) (laws_toAccessS_ok n x1 x82 hc83) (And.intro (And.intro rfl rfl) (trivial)) rfl ?_
      refine WO_sub [0, 1, 2, 3, 4] [0, 1, 6, 7, 8, 31, 33] (st' := ⟨[(0, .one (.e (.sl 0 0 x1.length))), (1, I i2), (6, .one (.e (.sl 1 0 x72.length))), (7, .one (.e (.sl 2 0 x74.length))), (8, .one (.e (.sl 3 0 x76.length))), (31, .one (.e (.sl 2 0 x74.length))), (33, .one (.e (.sl 4 0 x82.length)))], [.row .acc x1 false, .row .int x72 true, .row .acc x74 true, .row .int x76 true, .row .acc x82 true]⟩) (by kernel_rfl) ?_
      refine bindO_e h (fun b84 hc85 h => ?_)
      refine WO_call [.ro 2, .ro 4] Try.f27 rfl rfl rfl (by kernel_rfl) rfl rfl (by kernel_rfl) (laws_eqAccessS_ok n x74 x82 b84 hc85) (And.intro (And.intro rfl rfl) (And.intro (And.intro rfl rfl) (trivial))) rfl ?_
      refine WO_step 1 [0, 1, 2, 3] [0, 1, 6, 7, 8, 35] True ⟨[(0, .one (.e (.sl 0 0 x1.length))), (1, I i2), (6, .one (.e (.sl 1 0 x72.length))), (7, .one (.e (.sl 2 0 x74.length))), (8, .one (.e (.sl 3 0 x76.length))), (35, B (!b84))], [.row .acc x1 false, .row .int x72 true, .row .acc x74 true, .row .int x76 true]⟩ (by kernel_rfl) trivial ?_
      refine WO_nil rfl ?_
      refine thenS_n ?_
      refine iteO_e h (fun hb87 h => W_true rfl hb87 ?_) (fun hb87 h => W_false rfl hb87 ?_)
      · refine W_seq ?_
        refine W_region ?_
        refine WO_step 1 [0] [4] True ⟨[(4, B false)], [.row .acc x1 false]⟩ (by kernel_rfl) trivial ?_
        refine WO_nil rfl ?_
        refine thenS_n ?_
        refine W_ret ?_
        refine thenS_r ?_
        cases h
        exact ⟨[0], True, by kernel_rfl, trivial⟩
      · refine W_sub [0, 1, 2, 3] [0, 1, 6, 7, 8] (st' := ⟨[(0, .one (.e (.sl 0 0 x1.length))), (1, I i2), (6, .one (.e (.sl 1 0 x72.length))), (7, .one (.e (.sl 2 0 x74.length))), (8, .one (.e (.sl 3 0 x76.length)))], [.row .acc x1 false, .row .int x72 true, .row .acc x74 true, .row .int x76 true]⟩) (by kernel_rfl) ?_
        refine W_skip ?_
        refine thenS_n ?_
        refine W_seq ?_
        refine W_region ?_
        refine WO_step 1 [0, 1, 2, 3] [0, 1, 6, 7, 8, 9] True ⟨[(0, .one (.e (.sl 0 0 x1.length))), (1, I i2), (6, .one (.e (.sl 1 0 x72.length))), (7, .one (.e (.sl 2 0 x74.length))), (8, .one (.e (.sl 3 0 x76.length))), (9, I 1)], [.row .acc x1 false, .row .int x72 true, .row .acc x74 true, .row .int x76 true]⟩ (by kernel_rfl) trivial ?_
        refine WO_nil rfl ?_
        refine thenS_n ?_
        refine W_seq ?_
        refine W_region ?_
        refine WO_step 2 [0, 1, 3, 2] [0, 1, 6, 8, 36, 37] True ⟨[(0, .one (.e (.sl 0 0 x1.length))), (1, I i2), (6, .one (.e (.sl 1 0 x72.length))), (8, .one (.e (.sl 2 0 x76.length))), (36, .one (.e (.sl 3 0 x74.length))), (37, I 1)], [.row .acc x1 false, .row .int x72 true, .row .int x76 true, .row .acc x74 true]⟩ (by kernel_rfl) trivial ?_
        refine bindO_e h (fun v127 hc90 h => ?_)
        obtain ⟨x88, i89⟩ := v127
        refine guardO_e h (fun hl91 h => ?_)
        refine WO_call [.own 3] Try.f28 rfl rfl rfl (by kernel_rfl) rfl rfl (by kernel_rfl) (laws_markAccessS_ok n x74 x74.length 1 x88 i89 hc90) (And.intro (And.intro rfl (And.intro rfl hl91)) (trivial)) rfl ?_
        refine WO_sub [0, 1, 2, 3] [0, 1, 6, 8, 36, 37, 38] (st' := ⟨[(0, .one (.e (.sl 0 0 x1.length))), (1, I i2), (6, .one (.e (.sl 1 0 x72.length))), (8, .one (.e (.sl 2 0 x76.length))), (36, .one (.e (.sl 3 0 x74.length))), (37, I 1), (38, I i89)], [.row .acc x1 false, .row .int x72 true, .row .int x76 true, .row .acc x88 true]⟩) (by kernel_rfl) ?_
        refine WO_eq (st' := ⟨[(0, .one (.e (.sl 0 0 x1.length))), (1, I i2), (6, .one (.e (.sl 1 0 x72.length))), (8, .one (.e (.sl 2 0 x76.length))), (36, .one (.e (.sl 3 0 x88.length))), (37, I 1), (38, I i89)], [.row .acc x1 false, .row .int x72 true, .row .int x76 true, .row .acc x88 true]⟩) (by simp only [hl91]) ?_
        refine WO_step 1 [0, 1, 2] [0, 1, 6, 8, 9] True ⟨[(0, .one (.e (.sl 0 0 x1.length))), (1, I i2), (6, .one (.e (.sl 1 0 x72.length))), (8, .one (.e (.sl 2 0 x76.length))), (9, I i89)], [.row .acc x1 false, .row .int x72 true, .row .int x76 true]⟩ (by kernel_rfl) trivial ?_
        refine WO_nil rfl ?_
        refine thenS_n ?_
        refine W_seq ?_
        refine W_seq ?_
        refine W_region ?_
        refine WO_step 3 [0, 1, 2] [0, 1, 6, 8, 41] (True ∧ True) ⟨[(0, .one (.e (.sl 0 0 x1.length))), (1, I i2), (6, .one (.e (.sl 1 0 x72.length))), (8, .one (.e (.sl 2 0 x76.length))), (41, B (decide (i89 < 0)))], [.row .acc x1 false, .row .int x72 true, .row .int x76 true]⟩ (by kernel_rfl) ⟨trivial, trivial⟩ ?_
        refine bindO_e h (fun b95 hv96 h => ?_)
        refine WO_thru ⟨[(0, .one (.e (.sl 0 0 x1.length))), (1, I i2), (6, .one (.e (.sl 1 0 x72.length))), (8, .one (.e (.sl 2 0 x76.length))), (46, B b95)], [.row .acc x1 false, .row .int x72 true, .row .int x76 true]⟩ ?_ ?_
        · refine iteO_e hv96 (fun hb97 hv96 => WO_known 41 true rfl hb97 ?_) (fun hb97 hv96 => WO_known 41 false rfl hb97 ?_)
          · refine WO_step 5 [0, 1, 2] [0, 1, 6, 8, 46] True ⟨[(0, .one (.e (.sl 0 0 x1.length))), (1, I i2), (6, .one (.e (.sl 1 0 x72.length))), (8, .one (.e (.sl 2 0 x76.length))), (46, B true)], [.row .acc x1 false, .row .int x72 true, .row .int x76 true]⟩ (by kernel_rfl) trivial ?_
            cases hv96
            exact WO_nil rfl ⟨rfl, rfl⟩
          · refine WO_step 2 [0, 1, 2] [0, 1, 6, 8, 41, 42, 43] True ⟨[(0, .one (.e (.sl 0 0 x1.length))), (1, I i2), (6, .one (.e (.sl 1 0 x72.length))), (8, .one (.e (.sl 2 0 x76.length))), (41, B false), (42, .one (.e (.sl 2 0 x76.length))), (43, .one (.e (.sl 1 0 x72.length)))], [.row .acc x1 false, .row .int x72 true, .row .int x76 true]⟩ (by kernel_rfl) trivial ?_
            refine bindO_e hv96 (fun b98 hc99 hv96 => ?_)
            refine WO_call [.ro 2, .ro 1] Try.f26 rfl rfl rfl (by kernel_rfl) rfl rfl (by kernel_rfl) (laws_eqIntS_ok n x76 x72 b98 hc99) (And.intro (And.intro rfl rfl) (And.intro (And.intro rfl rfl) (trivial))) rfl ?_
            refine WO_step 2 [0, 1, 2] [0, 1, 6, 8, 46] True ⟨[(0, .one (.e (.sl 0 0 x1.length))), (1, I i2), (6, .one (.e (.sl 1 0 x72.length))), (8, .one (.e (.sl 2 0 x76.length))), (46, B (!b98))], [.row .acc x1 false, .row .int x72 true, .row .int x76 true]⟩ (by kernel_rfl) trivial ?_
            cases hv96
            exact WO_nil rfl ⟨rfl, rfl⟩
        · refine thenS_n ?_
          refine iteO_e h (fun hb101 h => W_true rfl hb101 ?_) (fun hb101 h => W_false rfl hb101 ?_)
          · refine W_seq ?_
            refine W_region ?_
            refine WO_step 1 [0] [4] True ⟨[(4, B false)], [.row .acc x1 false]⟩ (by kernel_rfl) trivial ?_
            refine WO_nil rfl ?_
            refine thenS_n ?_
            refine W_ret ?_
            refine thenS_r ?_
            cases h
            exact ⟨[0], True, by kernel_rfl, trivial⟩
          · refine W_sub [0, 1, 2] [0, 1, 6, 8] (st' := ⟨[(0, .one (.e (.sl 0 0 x1.length))), (1, I i2), (6, .one (.e (.sl 1 0 x72.length))), (8, .one (.e (.sl 2 0 x76.length)))], [.row .acc x1 false, .row .int x72 true, .row .int x76 true]⟩) (by kernel_rfl) ?_
            refine W_skip ?_
            refine thenS_n ?_
            refine W_seq ?_
            refine W_region ?_
            refine WO_step 1 [0, 1, 2] [0, 1, 6, 8, 10] True ⟨[(0, .one (.e (.sl 0 0 x1.length))), (1, I i2), (6, .one (.e (.sl 1 0 x72.length))), (8, .one (.e (.sl 2 0 x76.length))), (10, I 1)], [.row .acc x1 false, .row .int x72 true, .row .int x76 true]⟩ (by kernel_rfl) trivial ?_
            refine WO_nil rfl ?_
            refine thenS_n ?_
            refine W_seq ?_
            refine W_region ?_
            refine WO_step 2 [0, 1, 2] [0, 1, 6, 8, 47, 48] True ⟨[(0, .one (.e (.sl 0 0 x1.length))), (1, I i2), (6, .one (.e (.sl 1 0 x72.length))), (8, .one (.e (.sl 2 0 x76.length))), (47, .one (.e (.sl 2 0 x76.length))), (48, I 1)], [.row .acc x1 false, .row .int x72 true, .row .int x76 true]⟩ (by kernel_rfl) trivial ?_
            refine bindO_e h (fun v126 hc104 h => ?_)
            obtain ⟨x102, i103⟩ := v126
            refine guardO_e h (fun hl105 h => ?_)
            refine WO_call [.own 2] Try.f29 rfl rfl rfl (by kernel_rfl) rfl rfl (by kernel_rfl) (laws_markIntS_ok n x76 x76.length 1 x102 i103 hc104) (And.intro (And.intro rfl (And.intro rfl hl105)) (trivial)) rfl ?_
            refine WO_sub [0, 1, 2] [0, 1, 6, 8, 47, 48, 49] (st' := ⟨[(0, .one (.e (.sl 0 0 x1.length))), (1, I i2), (6, .one (.e (.sl 1 0 x72.length))), (8, .one (.e (.sl 2 0 x76.length))), (47, .one (.e (.sl 2 0 x76.length))), (48, I 1), (49, I i103)], [.row .acc x1 false, .row .int x72 true, .row .int x102 true]⟩) (by kernel_rfl) ?_
            refine WO_eq (st' := ⟨[(0, .one (.e (.sl 0 0 x1.length))), (1, I i2), (6, .one (.e (.sl 1 0 x72.length))), (8, .one (.e (.sl 2 0 x102.length))), (47, .one (.e (.sl 2 0 x102.length))), (48, I 1), (49, I i103)], [.row .acc x1 false, .row .int x72 true, .row .int x102 true]⟩) (by simp only [hl105]) ?_
            refine WO_step 1 [0, 1, 2] [0, 1, 6, 8, 10] True ⟨[(0, .one (.e (.sl 0 0 x1.length))), (1, I i2), (6, .one (.e (.sl 1 0 x72.length))), (8, .one (.e (.sl 2 0 x102.length))), (10, I i103)], [.row .acc x1 false, .row .int x72 true, .row .int x102 true]⟩ (by kernel_rfl) trivial ?_
            refine WO_nil rfl ?_
            refine thenS_n ?_
            refine W_seq ?_
            refine W_region ?_
            refine WO_step 1 [0, 1, 2] [0, 1, 6, 8, 10, 11] True ⟨[(0, .one (.e (.sl 0 0 x1.length))), (1, I i2), (6, .one (.e (.sl 1 0 x72.length))), (8, .one (.e (.sl 2 0 x102.length))), (10, I i103), (11, I 1)], [.row .acc x1 false, .row .int x72 true, .row .int x102 true]⟩ (by kernel_rfl) trivial ?_
            refine WO_nil rfl ?_
            refine thenS_n ?_
            refine W_seq ?_
            refine W_region ?_
            refine WO_step 2 [0, 1, 2] [0, 1, 6, 8, 10, 50, 51] True ⟨[(0, .one (.e (.sl 0 0 x1.length))), (1, I i2), (6, .one (.e (.sl 1 0 x72.length))), (8, .one (.e (.sl 2 0 x102.length))), (10, I i103), (50, .one (.e (.sl 2 0 x102.length))), (51, I 1)], [.row .acc x1 false, .row .int x72 true, .row .int x102 true]⟩ (by kernel_rfl) trivial ?_
            refine bindO_e h (fun i106 hc107 h => ?_)
            refine WO_call [.ro 2] Try.f30 rfl rfl rfl (by kernel_rfl) rfl rfl (by kernel_rfl) (laws_heldIntS_ok n x102 1 i106 hc107) (And.intro (And.intro rfl rfl) (trivial)) rfl ?_
            refine WO_step 1 [0, 1, 2] [0, 1, 6, 8, 10, 11] True ⟨[(0, .one (.e (.sl 0 0 x1.length))), (1, I i2), (6, .one (.e (.sl 1 0 x72.length))), (8, .one (.e (.sl 2 0 x102.length))), (10, I i103), (11, I i106)], [.row .acc x1 false, .row .int x72 true, .row .int x102 true]⟩ (by kernel_rfl) trivial ?_
            refine WO_nil rfl ?_
            refine thenS_n ?_
            refine W_seq ?_
            refine W_seq ?_
            refine W_region ?_
            refine WO_step 2 [0, 1, 2] [0, 1, 6, 8, 10, 11, 54] (True ∧ True) ⟨[(0, .one (.e (.sl 0 0 x1.length))), (1, I i2), (6, .one (.e (.sl 1 0 x72.length))), (8, .one (.e (.sl 2 0 x102.length))), (10, I i103), (11, I i106), (54, B (decide (i106 < 0)))], [.row .acc x1 false, .row .int x72 true, .row .int x102 true]⟩ (by kernel_rfl) ⟨trivial, trivial⟩ ?_
            refine WO_nil rfl ?_
            refine thenS_n ?_
            refine iteO_e h (fun hb109 h => W_true rfl hb109 ?_) (fun hb109 h => W_false rfl hb109 ?_)
            · refine W_seq ?_
              refine W_region ?_
              refine WO_step 1 [0] [4] True ⟨[(4, B false)], [.row .acc x1 false]⟩ (by kernel_rfl) trivial ?_
              refine WO_nil rfl ?_
              refine thenS_n ?_
              refine W_ret ?_
              refine thenS_r ?_
              cases h
              exact ⟨[0], True, by kernel_rfl, trivial⟩
            · refine W_sub [0, 1, 2] [0, 1, 6, 8, 10, 11] (st' := ⟨[(0, .one (.e (.sl 0 0 x1.length))), (1, I i2), (6, .one (.e (.sl 1 0 x72.length))), (8, .one (.e (.sl 2 0 x102.length))), (10, I i103), (11, I i106)], [.row .acc x1 false, .row .int x72 true, .row .int x102 true]⟩) (by kernel_rfl) ?_
              refine W_skip ?_
              refine thenS_n ?_
              refine W_seq ?_
              refine W_seq ?_
              refine W_region ?_
              refine WO_step 3 [0, 1, 2] [0, 1, 6, 8, 10, 57] (True ∧ True) ⟨[(0, .one (.e (.sl 0 0 x1.length))), (1, I i2), (6, .one (.e (.sl 1 0 x72.length))), (8, .one (.e (.sl 2 0 x102.length))), (10, I i103), (57, B (!decide (i106 = i103)))], [.row .acc x1 false, .row .int x72 true, .row .int x102 true]⟩ (by kernel_rfl) ⟨trivial, trivial⟩ ?_
              refine WO_nil rfl ?_
              refine thenS_n ?_
              refine iteO_e h (fun hb111 h => W_true rfl hb111 ?_) (fun hb111 h => W_false rfl hb111 ?_)
              · refine W_seq ?_
                refine W_region ?_
                refine WO_step 1 [0] [4] True ⟨[(4, B false)], [.row .acc x1 false]⟩ (by kernel_rfl) trivial ?_
                refine WO_nil rfl ?_
                refine thenS_n ?_
                refine W_ret ?_
                refine thenS_r ?_
                cases h
                exact ⟨[0], True, by kernel_rfl, trivial⟩
              · refine W_sub [0, 1, 2] [0, 1, 6, 8, 10] (st' := ⟨[(0, .one (.e (.sl 0 0 x1.length))), (1, I i2), (6, .one (.e (.sl 1 0 x72.length))), (8, .one (.e (.sl 2 0 x102.length))), (10, I i103)], [.row .acc x1 false, .row .int x72 true, .row .int x102 true]⟩) (by kernel_rfl) ?_
                refine W_skip ?_
                refine thenS_n ?_
                refine W_seq ?_
                refine W_region ?_
                refine WO_step 1 [0, 1, 2] [1, 6, 8, 10, 58] True ⟨[(1, I i2), (6, .one (.e (.sl 1 0 x72.length))), (8, .one (.e (.sl 2 0 x102.length))), (10, I i103), (58, .one (.e (.sl 0 0 x1.length)))], [.row .acc x1 false, .row .int x72 true, .row .int x102 true]⟩ (by kernel_rfl) trivial ?_
                refine bindO_e h (fun x112 hc113 h => ?_)
                refine WO_call [.ro 0] Try.f25 rfl rfl rfl (by kernel_rfl) rfl rfl (by kernel_rfl) (laws_toAccessS_ok n x1 x112 hc113) (And.intro (And.intro rfl rfl) (trivial)) rfl ?_
                refine WO_step 1 [0, 1, 2, 3] [6, 8, 10, 59, 60] True ⟨[(6, .one (.e (.sl 1 0 x72.length))), (8, .one (.e (.sl 2 0 x102.length))), (10, I i103), (59, .one (.e (.sl 3 0 x112.length))), (60, I i2)], [.row .acc x1 false, .row .int x72 true, .row .int x102 true, .row .acc x112 true]⟩ (by kernel_rfl) trivial ?_
                refine bindO_e h (fun x114 hc115 h => ?_)
                refine WO_call [.ro 3] Try.f32 rfl rfl rfl (by kernel_rfl) rfl rfl (by kernel_rfl) (impl_AbortSet_ok n x112 i2 x114 hc115) (And.intro (And.intro rfl rfl) (trivial)) rfl ?_
                refine WO_step 1 [0, 1, 2, 4] [6, 8, 10, 12] True ⟨[(6, .one (.e (.sl 1 0 x72.length))), (8, .one (.e (.sl 2 0 x102.length))), (10, I i103), (12, .one (.e (.sl 3 0 x114.length)))], [.row .acc x1 false, .row .int x72 true, .row .int x102 true, .row .int x114 true]⟩ (by kernel_rfl) trivial ?_
                refine WO_nil rfl ?_
                refine thenS_n ?_
                refine W_seq ?_
                refine W_seq ?_
                refine W_region ?_
                refine WO_step 2 [0, 2, 3, 1] [8, 10, 62, 63] True ⟨[(8, .one (.e (.sl 1 0 x102.length))), (10, I i103), (62, .one (.e (.sl 2 0 x114.length))), (63, .one (.e (.sl 3 0 x72.length)))], [.row .acc x1 false, .row .int x102 true, .row .int x114 true, .row .int x72 true]⟩ (by kernel_rfl) trivial ?_
                refine bindO_e h (fun b116 hc117 h => ?_)
                refine WO_call [.ro 2, .ro 3] Try.f26 rfl rfl rfl (by kernel_rfl) rfl rfl (by kernel_rfl) (laws_eqIntS_ok n x114 x72 b116 hc117) (And.intro (And.intro rfl rfl) (And.intro (And.intro rfl rfl) (trivial))) rfl ?_
                refine WO_step 1 [0, 1] [8, 10, 65] True ⟨[(8, .one (.e (.sl 1 0 x102.length))), (10, I i103), (65, B (!b116))], [.row .acc x1 false, .row .int x102 true]⟩ (by kernel_rfl) trivial ?_
                refine WO_nil rfl ?_
                refine thenS_n ?_
                refine iteO_e h (fun hb119 h => W_true rfl hb119 ?_) (fun hb119 h => W_false rfl hb119 ?_)
                · refine W_seq ?_
                  refine W_region ?_
                  refine WO_step 1 [0] [4] True ⟨[(4, B false)], [.row .acc x1 false]⟩ (by kernel_rfl) trivial ?_
                  refine WO_nil rfl ?_
                  refine thenS_n ?_
                  refine W_ret ?_
                  refine thenS_r ?_
                  cases h
                  exact ⟨[0], True, by kernel_rfl, trivial⟩
                · refine W_sub [0, 1] [8, 10] (st' := ⟨[(8, .one (.e (.sl 1 0 x102.length))), (10, I i103)], [.row .acc x1 false, .row .int x102 true]⟩) (by kernel_rfl) ?_
                  refine W_skip ?_
                  refine thenS_n ?_
                  refine W_seq ?_
                  refine W_region ?_
                  refine WO_step 1 [0, 1] [8, 10, 11] True ⟨[(8, .one (.e (.sl 1 0 x102.length))), (10, I i103), (11, I 1)], [.row .acc x1 false, .row .int x102 true]⟩ (by kernel_rfl) trivial ?_
                  refine WO_nil rfl ?_
                  refine thenS_n ?_
                  refine W_seq ?_
                  refine W_region ?_
                  refine WO_step 2 [0, 1] [10, 66, 67] True ⟨[(10, I i103), (66, .one (.e (.sl 1 0 x102.length))), (67, I 1)], [.row .acc x1 false, .row .int x102 true]⟩ (by kernel_rfl) trivial ?_
                  refine bindO_e h (fun i120 hc121 h => ?_)
                  refine WO_call [.ro 1] Try.f30 rfl rfl rfl (by kernel_rfl) rfl rfl (by kernel_rfl) (laws_heldIntS_ok n x102 1 i120 hc121) (And.intro (And.intro rfl rfl) (trivial)) rfl ?_
                  refine WO_step 1 [0] [10, 11] True ⟨[(10, I i103), (11, I i120)], [.row .acc x1 false]⟩ (by kernel_rfl) trivial ?_
                  refine WO_nil rfl ?_
                  refine thenS_n ?_
                  refine W_seq ?_
                  refine W_seq ?_
                  refine W_region ?_
                  refine WO_step 2 [0] [10, 11, 70] (True ∧ True) ⟨[(10, I i103), (11, I i120), (70, B (decide (i120 < 0)))], [.row .acc x1 false]⟩ (by kernel_rfl) ⟨trivial, trivial⟩ ?_
                  refine WO_nil rfl ?_
                  refine thenS_n ?_
                  refine iteO_e h (fun hb123 h => W_true rfl hb123 ?_) (fun hb123 h => W_false rfl hb123 ?_)
                  · refine W_seq ?_
                    refine W_region ?_
                    refine WO_step 1 [0] [4] True ⟨[(4, B false)], [.row .acc x1 false]⟩ (by kernel_rfl) trivial ?_
                    refine WO_nil rfl ?_
                    refine thenS_n ?_
                    refine W_ret ?_
                    refine thenS_r ?_
                    cases h
                    exact ⟨[0], True, by kernel_rfl, trivial⟩
                  · refine W_sub [0] [10, 11] (st' := ⟨[(10, I i103), (11, I i120)], [.row .acc x1 false]⟩) (by kernel_rfl) ?_
                    refine W_skip ?_
                    refine thenS_n ?_
                    refine W_seq ?_
                    refine W_seq ?_
                    refine W_region ?_
                    refine WO_step 3 [0] [73] (True ∧ True) ⟨[(73, B (!decide (i120 = i103)))], [.row .acc x1 false]⟩ (by kernel_rfl) ⟨trivial, trivial⟩ ?_
                    refine WO_nil rfl ?_
                    refine thenS_n ?_
                    refine iteO_e h (fun hb125 h => W_true rfl hb125 ?_) (fun hb125 h => W_false rfl hb125 ?_)
                    · refine W_seq ?_
                      refine W_region ?_
                      refine WO_step 1 [0] [4] True ⟨[(4, B false)], [.row .acc x1 false]⟩ (by kernel_rfl) trivial ?_
                      refine WO_nil rfl ?_
                      refine thenS_n ?_
                      refine W_ret ?_
                      refine thenS_r ?_
                      cases h
                      exact ⟨[0], True, by kernel_rfl, trivial⟩
                    · refine W_sub [0] [] (st' := ⟨[], [.row .acc x1 false]⟩) (by kernel_rfl) ?_
                      refine W_skip ?_
                      refine thenS_n ?_
                      refine W_seq ?_
                      refine W_region ?_
                      refine WO_step 1 [0] [4] True ⟨[(4, B true)], [.row .acc x1 false]⟩ (by kernel_rfl) trivial ?_
                      refine WO_nil rfl ?_
                      refine thenS_n ?_
                      refine W_ret ?_
                      cases h
                      exact ⟨[0], True, by kernel_rfl, trivial⟩

end Go.Proofs.Ytgihnmaaiibmeaa

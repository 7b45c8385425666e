import Derived.Test.YtghdgncfcfdlfaaGreatDoorTT1
namespace Go.Proofs.YtghdgncfcfdlfaaGreatDoor
open Go Go.Shelf Go.Proofs
set_option linter.unusedVariables false
/- impl.DropNode -/
def impl_DropNode_L1 (x1 : List Nod) (i2 : Int) : Nat → (List Int) → (List Nod) → Int → Option ((List Nod))
| 0, _, _, _ => none
| n + 1, x109, x110, i111 =>
 iteO (decide (i111 < ((x1.length : Nat) : Int)))
 (bindO (guardO (0 ≤ i111 ∧ i111 < ((x1.length : Nat) : Int)) <|
 bindO (impl_reaches n x1 i2 i111) fun b150 =>
 iteO b150
 (some (x109, x110))
 (guardO (0 ≤ i111 ∧ i111 < ((x109.length : Nat) : Int)) <|
 bindO (iteO (decide (0 < i111))
 (guardO (0 ≤ (x1.getD i111.toNat dnod).parent ∧ (x1.getD i111.toNat dnod).parent < (((x109.set i111.toNat ((x110.length : Nat) : Int)).length : Nat) : Int)) <|
 some ((x109.set i111.toNat ((x110.length : Nat) : Int)).getD (((x1.getD i111.toNat dnod).parent).toNat) 0))
 (some ((x1.getD i111.toNat dnod).parent))) fun i157 =>
 guardO (0 = 0 ∧ x110.length = x110.length ∧ x110.length + (([(⟨i157, (x1.getD i111.toNat dnod).name, (x1.getD i111.toNat dnod).value⟩ : Nod)].drop 0).take ([(⟨i157, (x1.getD i111.toNat dnod).name, (x1.getD i111.toNat dnod).value⟩ : Nod)].length)).length ≤ 1099511627776) <|
 some ((x109.set i111.toNat ((x110.length : Nat) : Int)), (x110 ++ (([(⟨i157, (x1.getD i111.toNat dnod).name, (x1.getD i111.toNat dnod).value⟩ : Nod)].drop 0).take ([(⟨i157, (x1.getD i111.toNat dnod).name, (x1.getD i111.toNat dnod).value⟩ : Nod)].length)))))) fun v148 =>
 match v148 with
 | (x146, x147) => (impl_DropNode_L1 x1 i2 n x146 x147 (w64 (i111 + 1)))
)
 (some x110)

theorem impl_DropNode_L1_ok (w : World) (X : Nat → Prop) (θ : List Loc) (x1 : List Nod) (i2 : Int) (x131 : (List Nod)) : ∀ (n : Nat) (x109 : List Int) (x110 : List Nod) (i111 : Int), impl_DropNode_L1 x1 i2 n x109 x110 i111 = some x131 → WL EE ⟨w, X, θ, 51, 1⟩ (subC [1, 1, 1, 1, 0, 1, 4, 4] (bodyC Tryz.f147)) (fun (e : Exit) (s : St) => e = .exit 0 ∧ s = ⟨[(7, sF 1 x131)], [nR x1, nO x131]⟩) ⟨[(0, sF 0 x1), (1, I i2), (6, sF 1 x109), (7, sF 2 x110), (21, sF 0 x1), (22, I ((x1.length : Nat) : Int)), (23, I i111)], [nR x1, iO x109, nO x110]⟩ := by
  intro n
  induction n with
  | zero => intro _ _ _ h; exact none_e h
  | succ n ih =>
    intro x109 x110 i111 h
    rw [impl_DropNode_L1] at h
    refine WL_round ?_
    refine Wsr ((Wp 1 [0, 1, 2] [0, 1, 6, 7, 21, 22, 23, 24] T2 ⟨[(0, sF 0 x1), (1, I i2), (6, sF 1 x109), (7, sF 2 x110), (21, sF 0 x1), (22, I (lI x1)), (23, I i111), (24, B (decide (i111 < (lI x1))))], [nR x1, iO x109, nO x110]⟩ t2 (Wnt ((W_seq (iteO_e h (fun hb134 h => W_true rfl hb134 ?_) (fun hb134 h => W_false rfl hb134 ?_)))))))
    ·refine Ww [0, 1, 2] [0, 1, 6, 7, 21, 22, 23] ⟨[(0, sF 0 x1), (1, I i2), (6, sF 1 x109), (7, sF 2 x110), (21, sF 0 x1), (22, I (lI x1)), (23, I i111)], [nR x1, iO x109, nO x110]⟩ (W_skip (thenS_n (W_seq (bindO_e h (fun v148 hv148 h => (W_cut (Q' := fun (e : Exit) (s : St) => (match v148 with | (x146, x147) => e = .normal ∧ s = ⟨[(0, sF 0 x1), (1, I i2), (6, sF 1 x146), (7, sF 2 x147), (21, sF 0 x1), (22, I (lI x1)), (23, I i111)], [nR x1, iO x146, nO x147]⟩ : Prop)) ?_ ?_))))))
     ·refine W_block (Wsr ((guardO_e hv148 (fun hg149 hv148 => (Wp 6 [0, 1, 2, 3] [0, 1, 6, 7, 8, 9, 21, 22, 23] ((0 ≤ i111 ∧ i111 < (lI x1)) ∧ T4) ⟨[(0, sF 0 x1), (1, I i2), (6, sF 1 x109), (7, sF 2 x110), (8, I i111), (9, pA 3 0), (21, sF 0 x1), (22, I (lI x1)), (23, I i111)], [nR x1, iO x109, nO x110, .cells [cI ((x1.getD i111.toNat dnod).parent), cS ((x1.getD i111.toNat dnod).name), cI ((x1.getD i111.toNat dnod).value)]]⟩ ⟨hg149, trivial, trivial, trivial, trivial⟩ (Wnt ((W_seq (Wsr ((Ws 3 [0, 1, 2, 3] [0, 1, 6, 7, 8, 9, 21, 22, 23, 28, 29, 30] ⟨[(0, sF 0 x1), (1, I i2), (6, sF 1 x109), (7, sF 2 x110), (8, I i111), (9, pA 3 0), (21, sF 0 x1), (22, I (lI x1)), (23, I i111), (28, sF 0 x1), (29, I i2), (30, I i111)], [nR x1, iO x109, nO x110, .cells [cI ((x1.getD i111.toNat dnod).parent), cS ((x1.getD i111.toNat dnod).name), cI ((x1.getD i111.toNat dnod).value)]]⟩ (bindO_e hv148 (fun b150 hc151 hv148 => (Wc [.ro 0] rfl rfl rfl Tryz.func169 rfl (impl_reaches_ok n x1 i2 i111 b150 hc151) (aI (aI rfl rfl) (trivial)) rfl (Wb [0, 1, 2, 3] [0, 1, 6, 7, 8, 9, 21, 22, 23, 31] ⟨[(0, sF 0 x1), (1, I i2), (6, sF 1 x109), (7, sF 2 x110), (8, I i111), (9, pA 3 0), (21, sF 0 x1), (22, I (lI x1)), (23, I i111), (31, B b150)], [nR x1, iO x109, nO x110, .cells [cI ((x1.getD i111.toNat dnod).parent), cS ((x1.getD i111.toNat dnod).name), cI ((x1.getD i111.toNat dnod).value)]]⟩ (Wnt ((iteO_e hv148 (fun hb153 hv148 => W_true rfl hb153 ?_) (fun hb153 hv148 => W_false rfl hb153 ?_)))))))))))))))))))
      ·refine Ww [0, 1, 2] [0, 1, 6, 7, 21, 22, 23] ⟨[(0, sF 0 x1), (1, I i2), (6, sF 1 x109), (7, sF 2 x110), (21, sF 0 x1), (22, I (lI x1)), (23, I i111)], [nR x1, iO x109, nO x110]⟩ (W_exit (thenS_e (blockS_y ?_)))
       cases hv148
       exact aI rfl rfl
      ·refine Ww [0, 1, 2, 3] [0, 1, 6, 7, 8, 9, 21, 22, 23] ⟨[(0, sF 0 x1), (1, I i2), (6, sF 1 x109), (7, sF 2 x110), (8, I i111), (9, pA 3 0), (21, sF 0 x1), (22, I (lI x1)), (23, I i111)], [nR x1, iO x109, nO x110, .cells [cI ((x1.getD i111.toNat dnod).parent), cS ((x1.getD i111.toNat dnod).name), cI ((x1.getD i111.toNat dnod).value)]]⟩ (W_skip (thenS_n (Wsr ((guardO_e hv148 (fun hg154 hv148 => (Wp 6 [0, 1, 2, 3] [0, 1, 6, 7, 8, 9, 21, 22, 23] (True ∧ ((0 ≤ i111 ∧ i111 < (lI x109)) ∧ T2)) ⟨[(0, sF 0 x1), (1, I i2), (6, sF 1 x109), (7, sF 2 x110), (8, I i111), (9, pA 3 0), (21, sF 0 x1), (22, I (lI x1)), (23, I i111)], [nR x1, .row .int (x109.set i111.toNat (lI x110)) true, nO x110, .cells [cI ((x1.getD i111.toNat dnod).parent), cS ((x1.getD i111.toNat dnod).name), cI ((x1.getD i111.toNat dnod).value)]]⟩ ⟨trivial, hg154, trivial, trivial⟩ (WO_eq (st' := ⟨[(0, sF 0 x1), (1, I i2), (6, .one (.e (.sl 1 0 ((x109.set i111.toNat (lI x110)).length)))), (7, sF 2 x110), (8, I i111), (9, pA 3 0), (21, sF 0 x1), (22, I (lI x1)), (23, I i111)], [nR x1, .row .int (x109.set i111.toNat (lI x110)) true, nO x110, .cells [cI ((x1.getD i111.toNat dnod).parent), cS ((x1.getD i111.toNat dnod).name), cI ((x1.getD i111.toNat dnod).value)]]⟩) (by simp only [sF, List.length_set]) (Wnt ((W_seq (Wsr ((Wp 2 [0, 1, 2, 3] [0, 1, 6, 7, 9, 21, 22, 23, 38] T2 ⟨[(0, sF 0 x1), (1, I i2), (6, .one (.e (.sl 1 0 ((x109.set i111.toNat (lI x110)).length)))), (7, sF 2 x110), (9, pA 3 0), (21, sF 0 x1), (22, I (lI x1)), (23, I i111), (38, B (decide (0 < i111)))], [nR x1, .row .int (x109.set i111.toNat (lI x110)) true, nO x110, .cells [cI ((x1.getD i111.toNat dnod).parent), cS ((x1.getD i111.toNat dnod).name), cI ((x1.getD i111.toNat dnod).value)]]⟩ t2 (Wnt ((bindO_e hv148 (fun i157 hi157 hv148 => (W_cut (Q' := fun (e : Exit) (s : St) => e = .normal ∧ s = ⟨[(0, sF 0 x1), (1, I i2), (6, .one (.e (.sl 1 0 ((x109.set i111.toNat (lI x110)).length)))), (7, sF 2 x110), (9, pA 3 0), (21, sF 0 x1), (22, I (lI x1)), (23, I i111)], [nR x1, .row .int (x109.set i111.toNat (lI x110)) true, nO x110, .cells [cI i157, cS ((x1.getD i111.toNat dnod).name), cI ((x1.getD i111.toNat dnod).value)]]⟩) ?_ ?_)))))))))))))))))))
       ·refine iteO_e hi157 (fun hb159 hi157 => W_true rfl hb159 ?_) (fun hb159 hi157 => W_false rfl hb159 ?_)
        ·refine W_region (guardO_e hi157 (fun hg160 hi157 => (Wp 7 [0, 1, 2, 3] [0, 1, 6, 7, 9, 21, 22, 23] (True ∧ ((0 ≤ (x1.getD i111.toNat dnod).parent ∧ (x1.getD i111.toNat dnod).parent < (((x109.set i111.toNat (lI x110)).length : Nat) : Int)) ∧ T3)) ⟨[(0, sF 0 x1), (1, I i2), (6, .one (.e (.sl 1 0 ((x109.set i111.toNat (lI x110)).length)))), (7, sF 2 x110), (9, pA 3 0), (21, sF 0 x1), (22, I (lI x1)), (23, I i111)], [nR x1, .row .int (x109.set i111.toNat (lI x110)) true, nO x110, .cells [cI ((x109.set i111.toNat (lI x110)).getD (((x1.getD i111.toNat dnod).parent).toNat) 0), cS ((x1.getD i111.toNat dnod).name), cI ((x1.getD i111.toNat dnod).value)]]⟩ ⟨trivial, hg160, trivial, trivial, trivial⟩ (WO_nil rfl ?_))))
         cases hi157
         exact aI rfl rfl
        ·refine Ww [0, 1, 2, 3] [0, 1, 6, 7, 9, 21, 22, 23] ⟨[(0, sF 0 x1), (1, I i2), (6, .one (.e (.sl 1 0 ((x109.set i111.toNat (lI x110)).length)))), (7, sF 2 x110), (9, pA 3 0), (21, sF 0 x1), (22, I (lI x1)), (23, I i111)], [nR x1, .row .int (x109.set i111.toNat (lI x110)) true, nO x110, .cells [cI ((x1.getD i111.toNat dnod).parent), cS ((x1.getD i111.toNat dnod).name), cI ((x1.getD i111.toNat dnod).value)]]⟩ (W_skip ?_)
         cases hi157
         exact aI rfl rfl
       ·rintro _ _ ⟨rfl, rfl⟩
        refine thenS_n (W_region (guardO_e hv148 (fun hg161 hv148 => (Wp 5 [0, 1, 5] [0, 1, 6, 7, 21, 22, 23] (True ∧ ((0 = 0 ∧ x110.length = x110.length ∧ x110.length + (([(⟨i157, (x1.getD i111.toNat dnod).name, (x1.getD i111.toNat dnod).value⟩ : Nod)].drop 0).take ([(⟨i157, (x1.getD i111.toNat dnod).name, (x1.getD i111.toNat dnod).value⟩ : Nod)].length)).length ≤ 1099511627776) ∧ True)) ⟨[(0, sF 0 x1), (1, I i2), (6, .one (.e (.sl 1 0 ((x109.set i111.toNat (lI x110)).length)))), (7, .one (.e (.sl 2 0 ((x110 ++ (([(⟨i157, (x1.getD i111.toNat dnod).name, (x1.getD i111.toNat dnod).value⟩ : Nod)].drop 0).take ([(⟨i157, (x1.getD i111.toNat dnod).name, (x1.getD i111.toNat dnod).value⟩ : Nod)].length))).length)))), (21, sF 0 x1), (22, I (lI x1)), (23, I i111)], [nR x1, .row .int (x109.set i111.toNat (lI x110)) true, .row .nod (x110 ++ (([(⟨i157, (x1.getD i111.toNat dnod).name, (x1.getD i111.toNat dnod).value⟩ : Nod)].drop 0).take ([(⟨i157, (x1.getD i111.toNat dnod).name, (x1.getD i111.toNat dnod).value⟩ : Nod)].length))) true]⟩ ⟨trivial, hg161, trivial⟩ (WO_nil rfl (blockS_n ?_))))))
        cases hv148
        exact aI rfl rfl
     ·obtain ⟨x146, x147⟩ := v148
      rintro _ _ ⟨rfl, rfl⟩
      refine thenS_n (W_region (Wp 2 [0, 1, 2] [0, 1, 6, 7, 21, 22, 23] T2 ⟨[(0, sF 0 x1), (1, I i2), (6, sF 1 x146), (7, sF 2 x147), (21, sF 0 x1), (22, I (lI x1)), (23, I (w64 (i111 + 1)))], [nR x1, iO x146, nO x147]⟩ t2 (Wnt (?_))))
      exact ih _ _ _ h
    ·refine Ww [0, 2] [7] ⟨[(7, sF 1 x110)], [nR x1, nO x110]⟩ (W_exit (thenS_e (thenS_e ?_)))
     cases h
     exact aI rfl rfl

def impl_DropNode (n : Nat) (x1 : List Nod) (i2 : Int) : Option ((List Nod) × Bool) :=
 bindO (impl_isNode n x1 i2) fun b77 =>
 iteO ((!b77) || (decide (i2 = 0)))
 (some (([] : List Nod), false))
 (guardO ((((x1.length : Nat) : Int) : Int) = ((x1.length : Nat) : Int) ∧ 0 ≤ ((x1.length : Nat) : Int) ∧ ((x1.length : Nat) : Int) ≤ 1099511627776) <|
 bindO (impl_DropNode_L1 x1 i2 n (List.replicate (((x1.length : Nat) : Int).toNat) (0 : Int)) ([] : List Nod) 0) fun x131 =>
 some (x131, true))

theorem impl_DropNode_ok (n : Nat) (x1 : List Nod) (i2 : Int) (x75 : List Nod) (b76 : Bool) (h : impl_DropNode n x1 i2 = some (x75, b76)) : FOk EE 147 [sF 0 x1, I i2] [nR x1] (.tup [.e (.sl 1 0 x75.length), .e (cB b76)]) [nR x1, nO x75] := by
  unfold impl_DropNode at h
  refine FOk_of_W 51 1 Tryz.func147 rfl rfl (Nat.le_of_ble_eq_true rfl) rfl (fun w X θ => ?_)
  refine Wsr ((Ws 2 [0] [0, 1] ⟨[(0, sF 0 x1), (1, I i2)], [nR x1]⟩ (Wnt ((W_seq (W_seq ?_))))))
  refine W_region (Ws 2 [0] [0, 1, 10, 11] ⟨[(0, sF 0 x1), (1, I i2), (10, sF 0 x1), (11, I i2)], [nR x1]⟩ (bindO_e h (fun b77 hc78 h => (Wc [.ro 0] rfl rfl rfl Tryz.func111 rfl (impl_isNode_ok n x1 i2 b77 hc78) (aI (aI rfl rfl) (trivial)) rfl (Ws 2 [0] [0, 1, 14] ⟨[(0, sF 0 x1), (1, I i2), (14, B (!b77))], [nR x1]⟩ (WO_thru ⟨[(0, sF 0 x1), (1, I i2), (17, B ((!b77) || (decide (i2 = 0))))], [nR x1]⟩ ?_ ?_))))))
  ·refine WO_if 14 rfl (fun hb81 => ?_) (fun hb81 => ?_)
   ·refine Ws 3 [0] [0, 1, 17] ⟨[(0, sF 0 x1), (1, I i2), (17, B true)], [nR x1]⟩ ?_
    exact WO_nil rfl ⟨rfl, by first | rfl | (rw [hb81]; first | done | rfl)⟩
   ·refine Wp 3 [0] [0, 1, 17] T2 ⟨[(0, sF 0 x1), (1, I i2), (17, B (decide (i2 = 0)))], [nR x1]⟩ t2 ?_
    exact WO_nil rfl ⟨rfl, by first | rfl | (rw [hb81]; first | done | rfl)⟩
  ·refine thenS_n (iteO_e h (fun hb83 h => W_true rfl hb83 ?_) (fun hb83 h => W_false rfl hb83 ?_))
   ·refine Wsr ((Ws 2 [0] [4, 5] ⟨[(4, .one (.e (.nsl))), (5, B false)], [nR x1]⟩ (WO_nilrow 4 .nod rfl (Wb [0, 1] [4, 5] ⟨[(4, .one (.e (.sl 1 0 (([] : List Nod).length)))), (5, B false)], [nR x1, nO ([] : List Nod)]⟩ (Wnt ((W_ret (thenS_r ?_))))))))
    cases h
    exact ⟨[0, 1], True, by kernel_rfl, trivial⟩
   ·refine Ww [0] [0, 1] ⟨[(0, sF 0 x1), (1, I i2)], [nR x1]⟩ (W_skip (thenS_n (Wsr ((guardO_e h (fun hg84 h => (Wp 4 [0, 1] [0, 1, 6] (True ∧ ((((lI x1) : Int) = (lI x1) ∧ 0 ≤ (lI x1) ∧ (lI x1) ≤ 1099511627776) ∧ True)) ⟨[(0, sF 0 x1), (1, I i2), (6, .one (.e (.sl 1 0 ((List.replicate ((lI x1).toNat) (0 : Int)).length))))], [nR x1, .row .int (List.replicate ((lI x1).toNat) (0 : Int)) true]⟩ ⟨trivial, hg84, trivial⟩ (Wnt ((Wsr ((Ws 1 [0, 1] [0, 1, 6, 7] ⟨[(0, sF 0 x1), (1, I i2), (6, .one (.e (.sl 1 0 ((List.replicate ((lI x1).toNat) (0 : Int)).length)))), (7, .one (.e (.nsl)))], [nR x1, .row .int (List.replicate ((lI x1).toNat) (0 : Int)) true]⟩ (WO_nilrow 7 .nod rfl (Wb [0, 1, 2] [0, 1, 6, 7] ⟨[(0, sF 0 x1), (1, I i2), (6, .one (.e (.sl 1 0 ((List.replicate ((lI x1).toNat) (0 : Int)).length)))), (7, .one (.e (.sl 2 0 (([] : List Nod).length))))], [nR x1, .row .int (List.replicate ((lI x1).toNat) (0 : Int)) true, nO ([] : List Nod)]⟩ (Wnt ((W_seq (Wsr ((Wp 3 [0, 1, 2] [0, 1, 6, 7, 21, 22, 23] T2 ⟨[(0, sF 0 x1), (1, I i2), (6, .one (.e (.sl 1 0 ((List.replicate ((lI x1).toNat) (0 : Int)).length)))), (7, .one (.e (.sl 2 0 (([] : List Nod).length)))), (21, sF 0 x1), (22, I (lI x1)), (23, I 0)], [nR x1, .row .int (List.replicate ((lI x1).toNat) (0 : Int)) true, nO ([] : List Nod)]⟩ t2 (Wnt ((W_block (W_loop (bindO_e h (fun x131 hx131 h => (WL_cut (impl_DropNode_L1_ok w X θ x1 i2 x131 n (List.replicate ((lI x1).toNat) (0 : Int)) ([] : List Nod) 0 hx131) ?_)))))))))))))))))))))))))))
    rintro _ _ ⟨rfl, rfl⟩
    refine blockS_y (thenS_n (Wsr ((Ws 3 [0, 1] [4, 5] ⟨[(4, sF 1 x131), (5, B true)], [nR x1, nO x131]⟩ (Wnt ((W_ret ?_)))))))
    cases h
    exact ⟨[0, 1], True, by kernel_rfl, trivial⟩

/- impl.SetValue -/
def impl_SetValue (n : Nat) (x1 : List Nod) (i2 : Int) (i3 : Int) : Option ((List Nod) × Bool) :=
 bindO (impl_isNode n x1 i2) fun b16 =>
 iteO ((!b16) || (!(impl_within i3 (-1000) 1000)))
 (some (([] : List Nod), false))
 (bindO (slices_Clone_Node x1) fun x23 =>
 guardO (0 ≤ i2 ∧ i2 < ((x23.length : Nat) : Int)) <|
 some ((x23.set i2.toNat (⟨(x23.getD i2.toNat dnod).parent, (x23.getD i2.toNat dnod).name, i3⟩ : Nod)), true))

theorem impl_SetValue_ok (n : Nat) (x1 : List Nod) (i2 : Int) (i3 : Int) (x14 : List Nod) (b15 : Bool) (h : impl_SetValue n x1 i2 i3 = some (x14, b15)) : FOk EE 148 [sF 0 x1, I i2, I i3] [nR x1] (.tup [.e (.sl 1 0 x14.length), .e (cB b15)]) [nR x1, nO x14] := by
  unfold impl_SetValue at h
  refine FOk_of_W 26 1 Tryz.func148 rfl rfl (Nat.le_of_ble_eq_true rfl) rfl (fun w X θ => ?_)
  refine Wsr ((Ws 2 [0] [0, 1, 2] ⟨[(0, sF 0 x1), (1, I i2), (2, I i3)], [nR x1]⟩ (Wnt ((W_seq (W_seq ?_))))))
  refine W_region (Ws 2 [0] [0, 1, 2, 9, 10] ⟨[(0, sF 0 x1), (1, I i2), (2, I i3), (9, sF 0 x1), (10, I i2)], [nR x1]⟩ (bindO_e h (fun b16 hc17 h => (Wc [.ro 0] rfl rfl rfl Tryz.func111 rfl (impl_isNode_ok n x1 i2 b16 hc17) (aI (aI rfl rfl) (trivial)) rfl (Ws 2 [0] [0, 1, 2, 13] ⟨[(0, sF 0 x1), (1, I i2), (2, I i3), (13, B (!b16))], [nR x1]⟩ (WO_thru ⟨[(0, sF 0 x1), (1, I i2), (2, I i3), (17, B ((!b16) || (!(impl_within i3 (-1000) 1000))))], [nR x1]⟩ ?_ ?_))))))
  ·refine WO_if 13 rfl (fun hb20 => ?_) (fun hb20 => ?_)
   ·refine Ws 4 [0] [0, 1, 2, 17] ⟨[(0, sF 0 x1), (1, I i2), (2, I i3), (17, B true)], [nR x1]⟩ ?_
    exact WO_nil rfl ⟨rfl, by first | rfl | (rw [hb20]; first | done | rfl)⟩
   ·refine Ws 1 [0] [0, 1, 2, 13, 14] ⟨[(0, sF 0 x1), (1, I i2), (2, I i3), (13, B false), (14, I i3)], [nR x1]⟩ (Wc [] rfl rfl rfl Tryz.func49 rfl (impl_within_ok i3 (-1000) 1000) (trivial) rfl (Ws 2 [0] [0, 1, 2, 17] ⟨[(0, sF 0 x1), (1, I i2), (2, I i3), (17, B (!(impl_within i3 (-1000) 1000)))], [nR x1]⟩ ?_))
    exact WO_nil rfl ⟨rfl, by first | rfl | (rw [hb20]; first | done | rfl)⟩
  ·refine thenS_n (iteO_e h (fun hb22 h => W_true rfl hb22 ?_) (fun hb22 h => W_false rfl hb22 ?_))
   ·refine Wsr ((Ws 2 [0] [6, 7] ⟨[(6, .one (.e (.nsl))), (7, B false)], [nR x1]⟩ (WO_nilrow 6 .nod rfl (Wb [0, 1] [6, 7] ⟨[(6, .one (.e (.sl 1 0 (([] : List Nod).length)))), (7, B false)], [nR x1, nO ([] : List Nod)]⟩ (Wnt ((W_ret (thenS_r ?_))))))))
    cases h
    exact ⟨[0, 1], True, by kernel_rfl, trivial⟩
   ·refine Ww [0] [0, 1, 2] ⟨[(0, sF 0 x1), (1, I i2), (2, I i3)], [nR x1]⟩ (W_skip (thenS_n (Wsr ((Ws 1 [0] [1, 2, 18] ⟨[(1, I i2), (2, I i3), (18, sF 0 x1)], [nR x1]⟩ (bindO_e h (fun x23 hc24 h => (Wc [.ro 0] rfl rfl rfl Tryz.func105 rfl (slices_Clone_Node_ok x1 x23 hc24) (aI (aI rfl rfl) (trivial)) rfl (Ws 1 [0, 1] [1, 2, 8] ⟨[(1, I i2), (2, I i3), (8, sF 1 x23)], [nR x1, nO x23]⟩ (Wnt ((Wsr ((guardO_e h (fun hg25 h => (Wp 6 [0, 1] [8] ((0 ≤ i2 ∧ i2 < (lI x23)) ∧ T2) ⟨[(8, sF 1 x23)], [nR x1, .row .nod (x23.set i2.toNat (⟨(x23.getD i2.toNat dnod).parent, (x23.getD i2.toNat dnod).name, i3⟩ : Nod)) true]⟩ ⟨hg25, trivial, trivial⟩ (WO_eq (st' := ⟨[(8, .one (.e (.sl 1 0 ((x23.set i2.toNat (⟨(x23.getD i2.toNat dnod).parent, (x23.getD i2.toNat dnod).name, i3⟩ : Nod)).length))))], [nR x1, .row .nod (x23.set i2.toNat (⟨(x23.getD i2.toNat dnod).parent, (x23.getD i2.toNat dnod).name, i3⟩ : Nod)) true]⟩) (by simp only [sF, List.length_set]) (Wnt ((Wsr ((Ws 3 [0, 1] [6, 7] ⟨[(6, .one (.e (.sl 1 0 ((x23.set i2.toNat (⟨(x23.getD i2.toNat dnod).parent, (x23.getD i2.toNat dnod).name, i3⟩ : Nod)).length)))), (7, B true)], [nR x1, .row .nod (x23.set i2.toNat (⟨(x23.getD i2.toNat dnod).parent, (x23.getD i2.toNat dnod).name, i3⟩ : Nod)) true]⟩ (Wnt ((W_ret ?_)))))))))))))))))))))))))
    cases h
    exact ⟨[0, 1], True, by kernel_rfl, trivial⟩

/- impl.AddNode -/
def impl_AddNode (n : Nat) (x1 : List Nod) (i2 : Int) (s3 : Str) (i4 : Int) : Option ((List Nod) × Int × Bool) :=
 bindO (impl_ValidTree n x1) fun b19 =>
 iteO (!b19)
 (some (([] : List Nod), (-1), false))
 (bindO (slices_Clone_Node x1) fun x23 =>
 guardO (0 = 0 ∧ x23.length = x23.length ∧ x23.length + (([(⟨i2, s3, i4⟩ : Nod)].drop 0).take ([(⟨i2, s3, i4⟩ : Nod)].length)).length ≤ 1099511627776) <|
 bindO (impl_ValidTree n (x23 ++ (([(⟨i2, s3, i4⟩ : Nod)].drop 0).take ([(⟨i2, s3, i4⟩ : Nod)].length)))) fun b26 =>
 iteO (!b26)
 (some (([] : List Nod), (-1), false))
 (some ((x23 ++ (([(⟨i2, s3, i4⟩ : Nod)].drop 0).take ([(⟨i2, s3, i4⟩ : Nod)].length))), ((x1.length : Nat) : Int), true)))

theorem impl_AddNode_ok (n : Nat) (x1 : List Nod) (i2 : Int) (s3 : Str) (i4 : Int) (x16 : List Nod) (i17 : Int) (b18 : Bool) (h : impl_AddNode n x1 i2 s3 i4 = some (x16, i17, b18)) : FOk EE 68 [sF 0 x1, I i2, S s3, I i4] [nR x1] (.tup [.e (.sl 1 0 x16.length), .e (cI i17), .e (cB b18)]) [nR x1, nO x16] := by
  unfold impl_AddNode at h
  refine FOk_of_W 29 1 Tryz.func68 rfl rfl (Nat.le_of_ble_eq_true rfl) rfl (fun w X θ => ?_)
  refine Wsr ((Ws 3 [0] [0, 1, 2, 3] ⟨[(0, sF 0 x1), (1, I i2), (2, S s3), (3, I i4)], [nR x1]⟩ (Wnt ((W_seq (W_seq ?_))))))
  refine W_region (Ws 1 [0] [0, 1, 2, 3, 12] ⟨[(0, sF 0 x1), (1, I i2), (2, S s3), (3, I i4), (12, sF 0 x1)], [nR x1]⟩ (bindO_e h (fun b19 hc20 h => (Wc [.ro 0] rfl rfl rfl Tryz.func18 rfl (impl_ValidTree_ok n x1 b19 hc20) (aI (aI rfl rfl) (trivial)) rfl (Ws 1 [0] [0, 1, 2, 3, 14] ⟨[(0, sF 0 x1), (1, I i2), (2, S s3), (3, I i4), (14, B (!b19))], [nR x1]⟩ (Wnt (?_)))))))
  refine iteO_e h (fun hb22 h => W_true rfl hb22 ?_) (fun hb22 h => W_false rfl hb22 ?_)
  ·refine Wsr ((Ws 3 [0] [8, 9, 10] ⟨[(8, .one (.e (.nsl))), (9, I (-1)), (10, B false)], [nR x1]⟩ (WO_nilrow 8 .nod rfl (Wb [0, 1] [8, 9, 10] ⟨[(8, .one (.e (.sl 1 0 (([] : List Nod).length)))), (9, I (-1)), (10, B false)], [nR x1, nO ([] : List Nod)]⟩ (Wnt ((W_ret (thenS_r ?_))))))))
   cases h
   exact ⟨[0, 1], True, by kernel_rfl, trivial⟩
  ·refine Ww [0] [0, 1, 2, 3] ⟨[(0, sF 0 x1), (1, I i2), (2, S s3), (3, I i4)], [nR x1]⟩ (W_skip (thenS_n (Wsr ((Ws 1 [0] [0, 1, 2, 3, 15] ⟨[(0, sF 0 x1), (1, I i2), (2, S s3), (3, I i4), (15, sF 0 x1)], [nR x1]⟩ (bindO_e h (fun x23 hc24 h => (Wc [.ro 0] rfl rfl rfl Tryz.func105 rfl (slices_Clone_Node_ok x1 x23 hc24) (aI (aI rfl rfl) (trivial)) rfl (guardO_e h (fun hg25 h => (Wp 7 [0, 3] [0, 11] ((0 = 0 ∧ x23.length = x23.length ∧ x23.length + (([(⟨i2, s3, i4⟩ : Nod)].drop 0).take ([(⟨i2, s3, i4⟩ : Nod)].length)).length ≤ 1099511627776) ∧ True) ⟨[(0, sF 0 x1), (11, .one (.e (.sl 1 0 ((x23 ++ (([(⟨i2, s3, i4⟩ : Nod)].drop 0).take ([(⟨i2, s3, i4⟩ : Nod)].length))).length))))], [nR x1, .row .nod (x23 ++ (([(⟨i2, s3, i4⟩ : Nod)].drop 0).take ([(⟨i2, s3, i4⟩ : Nod)].length))) true]⟩ ⟨hg25, trivial⟩ (Wnt ((W_seq (Wsr ((Ws 1 [0, 1] [0, 11, 23] ⟨[(0, sF 0 x1), (11, .one (.e (.sl 1 0 ((x23 ++ (([(⟨i2, s3, i4⟩ : Nod)].drop 0).take ([(⟨i2, s3, i4⟩ : Nod)].length))).length)))), (23, .one (.e (.sl 1 0 ((x23 ++ (([(⟨i2, s3, i4⟩ : Nod)].drop 0).take ([(⟨i2, s3, i4⟩ : Nod)].length))).length))))], [nR x1, .row .nod (x23 ++ (([(⟨i2, s3, i4⟩ : Nod)].drop 0).take ([(⟨i2, s3, i4⟩ : Nod)].length))) true]⟩ (bindO_e h (fun b26 hc27 h => (Wc [.ro 1] rfl rfl rfl Tryz.func18 rfl (impl_ValidTree_ok n (x23 ++ (([(⟨i2, s3, i4⟩ : Nod)].drop 0).take ([(⟨i2, s3, i4⟩ : Nod)].length))) b26 hc27) (aI (aI rfl rfl) (trivial)) rfl (Ws 1 [0, 1] [0, 11, 25] ⟨[(0, sF 0 x1), (11, .one (.e (.sl 1 0 ((x23 ++ (([(⟨i2, s3, i4⟩ : Nod)].drop 0).take ([(⟨i2, s3, i4⟩ : Nod)].length))).length)))), (25, B (!b26))], [nR x1, .row .nod (x23 ++ (([(⟨i2, s3, i4⟩ : Nod)].drop 0).take ([(⟨i2, s3, i4⟩ : Nod)].length))) true]⟩ (Wnt ((iteO_e h (fun hb29 h => W_true rfl hb29 ?_) (fun hb29 h => W_false rfl hb29 ?_)))))))))))))))))))))))))
   ·refine Wsr ((Ws 3 [0] [8, 9, 10] ⟨[(8, .one (.e (.nsl))), (9, I (-1)), (10, B false)], [nR x1]⟩ (WO_nilrow 8 .nod rfl (Wb [0, 1] [8, 9, 10] ⟨[(8, .one (.e (.sl 1 0 (([] : List Nod).length)))), (9, I (-1)), (10, B false)], [nR x1, nO ([] : List Nod)]⟩ (Wnt ((W_ret (thenS_r ?_))))))))
    cases h
    exact ⟨[0, 1], True, by kernel_rfl, trivial⟩
   ·refine Ww [0, 1] [0, 11] ⟨[(0, sF 0 x1), (11, .one (.e (.sl 1 0 ((x23 ++ (([(⟨i2, s3, i4⟩ : Nod)].drop 0).take ([(⟨i2, s3, i4⟩ : Nod)].length))).length))))], [nR x1, .row .nod (x23 ++ (([(⟨i2, s3, i4⟩ : Nod)].drop 0).take ([(⟨i2, s3, i4⟩ : Nod)].length))) true]⟩ (W_skip (thenS_n (Wsr ((Wp 6 [0, 1] [8, 9, 10] T2 ⟨[(8, .one (.e (.sl 1 0 ((x23 ++ (([(⟨i2, s3, i4⟩ : Nod)].drop 0).take ([(⟨i2, s3, i4⟩ : Nod)].length))).length)))), (9, I (lI x1)), (10, B true)], [nR x1, .row .nod (x23 ++ (([(⟨i2, s3, i4⟩ : Nod)].drop 0).take ([(⟨i2, s3, i4⟩ : Nod)].length))) true]⟩ t2 (Wnt ((W_ret ?_))))))))
    cases h
    exact ⟨[0, 1], True, by kernel_rfl, trivial⟩

/- (*strings.Builder).copyCheck -/
def lays240R : Shelf.Ren := ⟨fun n => match n with | 240 => 52 | 276 => 76 | _ => 0, fun n => match n with | 0 => 0 | 4 => 4 | 9 => 9 | 20 => 20 | 70 => 51 | 72 => 53 | 164 => 95 | 37 => 22 | 5 => 5 | _ => 0, fun n => n⟩
set_option maxRecDepth 100000 in
theorem lays240 : Lays.n240 Tryz.prog lays240R := {
  mixed := by kernel_rfl
  f240 := by kernel_rfl
  f276 := by kernel_rfl
  t0 := Tryz.underlying0
  a0 := Tryz.isAgg0
  z0 := Tryz.sizeOf0
  v0 := Tryz.zeroValue0
  t4 := Tryz.underlying4
  a4 := Tryz.isAgg4
  z4 := Tryz.sizeOf4
  v4 := Tryz.zeroValue4
  t9 := Tryz.underlying9
  a9 := Tryz.isAgg9
  z9 := Tryz.sizeOf9
  v9 := Tryz.zeroValue9
  t20 := Tryz.underlying20
  a20 := Tryz.isAgg20
  z20 := Tryz.sizeOf20
  v20 := Tryz.zeroValue20
  t70 := Tryz.underlying51
  a70 := Tryz.isAgg51
  z70 := Tryz.sizeOf51
  v70 := Tryz.zeroValue51
  t72 := Tryz.underlying53
  a72 := Tryz.isAgg53
  z72 := Tryz.sizeOf53
  v72 := Tryz.zeroValue53
  t164 := Tryz.underlying95
  a164 := Tryz.isAgg95
  z164 := Tryz.sizeOf95
  v164 := Tryz.zeroValue95 }
theorem x72 : Builder.X72 Tryz.prog lays240R := {
  sizeBuilder := by kernel_rfl
  liesBuilder := by kernel_rfl }
theorem copyCheck_ok (x1 : List Int) : FOk EE 52 [pA 0 0] [.cells [.sp 0 53, .bsl 1 x1.length], uO x1] (.tup []) [.cells [.sp 0 53, .bsl 1 x1.length], uO x1] := by
  refine FOk_copy (fun b w h0 h1 h2 => ?_) (fun b w h0 => ?_) x1.length x1
  · exact Any.Builder_copyCheck_fresh lays240 x72 b w h0 h1 h2
  · exact Any.Builder_copyCheck_used lays240 x72 b w h0

/- (*strings.Builder).WriteByte -/
def strings_Builder_WriteByte (x1 : List Int) (i2 : Int) : Option ((List Int)) :=
 guardO (0 = 0 ∧ x1.length = x1.length ∧ x1.length + (([i2].drop 0).take ([i2].length)).length ≤ 1099511627776) <|
 some (x1 ++ (([i2].drop 0).take ([i2].length)))

theorem strings_Builder_WriteByte_ok (x1 : List Int) (i2 : Int) (x4 : List Int) (h : strings_Builder_WriteByte x1 i2 = some x4) : FOk EE 32 [pA 0 0, U i2] [.cells [.sp 0 53, .bsl 1 x1.length], uO x1] (.one (.e (.nif))) [.cells [.sp 0 53, .bsl 2 x4.length], .dead, uO x4] := by
  unfold strings_Builder_WriteByte at h
  refine FOk_of_W 17 2 Tryz.func32 rfl rfl (Nat.le_of_ble_eq_true rfl) rfl (fun w X θ => ?_)
  refine Wsr ((Ws 1 [0, 1] [0, 1] ⟨[(0, pA 0 0), (1, U i2)], [.cells [.sp 0 53, .bsl 1 x1.length], uO x1]⟩ (Wnt ((W_seq (W_region ?_))))))
  refine Ws 1 [0, 1] [0, 1, 5] ⟨[(0, pA 0 0), (1, U i2), (5, pA 0 0)], [.cells [.sp 0 53, .bsl 1 x1.length], uO x1]⟩ (Wc [.own 0, .own 1] rfl rfl rfl Tryz.func52 rfl (copyCheck_ok x1) (aI (trivial) (aI (aI rfl (aI rfl rfl)) (trivial))) rfl (Wb [0, 1] [0, 1] ⟨[(0, pA 0 0), (1, U i2)], [.cells [.sp 0 53, .bsl 1 x1.length], uO x1]⟩ (Wnt ((W_seq (W_region ?_))))))
  refine guardO_e h (fun hg5 h => (Wp 11 [0, 1, 3] [] (True ∧ ((0 = 0 ∧ x1.length = x1.length ∧ x1.length + (([i2].drop 0).take ([i2].length)).length ≤ 1099511627776) ∧ T2)) ⟨[], [.cells [.sp 0 53, .bsl 2 ((x1 ++ (([i2].drop 0).take ([i2].length))).length)], .dead, .row .u8 (x1 ++ (([i2].drop 0).take ([i2].length))) true]⟩ ⟨trivial, hg5, trivial, trivial⟩ (Wnt ((Wsr ((Ws 1 [0, 1, 2] [4] ⟨[(4, .one (.e (.nif)))], [.cells [.sp 0 53, .bsl 2 ((x1 ++ (([i2].drop 0).take ([i2].length))).length)], .dead, .row .u8 (x1 ++ (([i2].drop 0).take ([i2].length))) true]⟩ ?_)))))))
  refine Wnt ((W_ret ?_))
  cases h
  exact ⟨[0, 1, 2], True, by kernel_rfl, trivial⟩

/- (*strings.Builder).WriteString -/
def strings_Builder_WriteString (x1 : List Int) (s2 : Str) : Option ((List Int) × Int) :=
 guardO (0 = 0 ∧ x1.length = x1.length ∧ x1.length + ((s2 : Str).map fun b => ((b.toNat : Nat) : Int)).length ≤ 1099511627776) <|
 some ((x1 ++ ((s2 : Str).map fun b => ((b.toNat : Nat) : Int))), ((s2.length : Nat) : Int))

theorem strings_Builder_WriteString_ok (x1 : List Int) (s2 : Str) (x4 : List Int) (i5 : Int) (h : strings_Builder_WriteString x1 s2 = some (x4, i5)) : FOk EE 29 [pA 0 0, S s2] [.cells [.sp 0 53, .bsl 1 x1.length], uO x1] (.tup [.e (cI i5), .e (.nif)]) [.cells [.sp 0 53, .bsl 2 x4.length], .dead, uO x4] := by
  unfold strings_Builder_WriteString at h
  refine FOk_of_W 19 2 Tryz.func29 rfl rfl (Nat.le_of_ble_eq_true rfl) rfl (fun w X θ => ?_)
  refine Wsr ((Ws 2 [0, 1] [0, 1] ⟨[(0, pA 0 0), (1, S s2)], [.cells [.sp 0 53, .bsl 1 x1.length], uO x1]⟩ (Wnt ((W_seq (W_region ?_))))))
  refine Ws 1 [0, 1] [0, 1, 6] ⟨[(0, pA 0 0), (1, S s2), (6, pA 0 0)], [.cells [.sp 0 53, .bsl 1 x1.length], uO x1]⟩ (Wc [.own 0, .own 1] rfl rfl rfl Tryz.func52 rfl (copyCheck_ok x1) (aI (trivial) (aI (aI rfl (aI rfl rfl)) (trivial))) rfl (Wb [0, 1] [0, 1] ⟨[(0, pA 0 0), (1, S s2)], [.cells [.sp 0 53, .bsl 1 x1.length], uO x1]⟩ (Wnt ((W_seq (W_region ?_))))))
  refine guardO_e h (fun hg6 h => (Wp 10 [0, 1, 2] [1] (True ∧ ((0 = 0 ∧ x1.length = x1.length ∧ x1.length + ((s2 : Str).map fun b => ((b.toNat : Nat) : Int)).length ≤ 1099511627776) ∧ T2)) ⟨[(1, S s2)], [.cells [.sp 0 53, .bsl 2 ((x1 ++ ((s2 : Str).map fun b => ((b.toNat : Nat) : Int))).length)], .dead, .row .u8 (x1 ++ ((s2 : Str).map fun b => ((b.toNat : Nat) : Int))) true]⟩ ⟨trivial, hg6, trivial, trivial⟩ (Wnt ((Wsr ((Wp 4 [0, 1, 2] [4, 5] T2 ⟨[(4, I (lI s2)), (5, .one (.e (.nif)))], [.cells [.sp 0 53, .bsl 2 ((x1 ++ ((s2 : Str).map fun b => ((b.toNat : Nat) : Int))).length)], .dead, .row .u8 (x1 ++ ((s2 : Str).map fun b => ((b.toNat : Nat) : Int))) true]⟩ t2 ?_)))))))
  refine Wnt ((W_ret ?_))
  cases h
  exact ⟨[0, 1, 2], True, by kernel_rfl, trivial⟩

/- (*strings.Builder).String -/
def strings_Builder_String (x1 : List Int) : Option (Nat × Str) :=
 guardO (((x1.length : Nat) : Int) = (x1.length : Int) ∧ ∀ x ∈ x1, 0 ≤ x ∧ x ≤ 255) <|
 some (x1.length, (bytesOf x1))

theorem strings_Builder_String_ok (x1 : List Int) (k3 : Nat) (s4 : Str) (h : strings_Builder_String x1 = some (k3, s4)) : FOk EE 33 [pA 0 0] [.cells [.sp 0 53, .bsl 1 x1.length], uO x1] (S s4) [.cells [.sp 0 53, .bsl 1 k3], .dead] := by
  unfold strings_Builder_String at h
  refine FOk_of_W 14 2 Tryz.func33 rfl rfl (Nat.le_of_ble_eq_true rfl) rfl (fun w X θ => ?_)
  refine Wsr ((Ws 1 [0, 1] [0] ⟨[(0, pA 0 0)], [.cells [.sp 0 53, .bsl 1 x1.length], uO x1]⟩ (Wnt ((W_seq (guardO_e h (fun hg5 h => ?_)))))))
  refine W_cut (Q' := fun (e : Exit) (s : St) => e = .normal ∧ s = ⟨[(2, S (bytesOf x1))], [.cells [.sp 0 53, .bsl 1 x1.length], .dead]⟩) ?_ ?_
  ·refine W_draw [1] false (by kernel_rfl) (by kernel_rfl) (WD_takeQ [0, 1, 2, 5, 6, 7] [5, 10] [5, 10] (φ := True) (ls' := (tf true [3, 2, 3, 4])) (st' := ⟨[(5, pA 0 1), (10, pA 0 1)], [.cells [.sp 0 53, .bsl 1 x1.length], uO x1]⟩) (n2 := 6) (by kernel_rfl) trivial rfl (WD_all [3, 8] (n := 5) (by kernel_rfl) rfl (aI ?_ (?_))))
   ·refine WM_op (φ := True) (v := .one (.e (.bsl 1 x1.length))) (H' := [.cells [.sp 0 53, .bsl 1 x1.length], uO x1]) rfl rfl (by kernel_rfl) trivial rfl (aI (aI rfl rfl) (trivial)) (WD_all [4, 8] (n := 4) (by kernel_rfl) rfl (aI ?_ (?_)))
    ·refine WM_op (φ := True) (v := .one (.e (.sd 1))) (H' := [.cells [.sp 0 53, .bsl 1 x1.length], uO x1]) rfl rfl (by kernel_rfl) trivial rfl (aI (aI rfl rfl) (trivial)) (WD_all [8] (n := 3) (by kernel_rfl) rfl (WM_op (φ := True) (v := .one (.e (.bsl 1 x1.length))) (H' := [.cells [.sp 0 53, .bsl 1 x1.length], uO x1]) rfl rfl (by kernel_rfl) trivial rfl (aI (aI rfl rfl) (trivial)) (WD_all [9] (n := 2) (by kernel_rfl) rfl (WM_op (φ := True) (v := I (lI x1)) (H' := [.cells [.sp 0 53, .bsl 1 x1.length], uO x1]) rfl rfl (by kernel_rfl) trivial rfl (aI (aI rfl rfl) (trivial)) (WD_all [10] (n := 1) (by kernel_rfl) rfl (WM_op (φ := (lI x1) = (x1.length : Int) ∧ ∀ x ∈ x1, 0 ≤ x ∧ x ≤ 255) (v := S (bytesOf x1)) (H' := [.cells [.sp 0 53, .bsl 1 x1.length], .dead]) rfl rfl (by kernel_rfl) hg5 rfl (aI (aI rfl rfl) (trivial)) (WD_takeQ [11] [2] [2] (φ := True) (ls' := (tf true [12])) (st' := ⟨[(2, S (bytesOf x1))], [.cells [.sp 0 53, .bsl 1 x1.length], .dead]⟩) (n2 := 0) (by kernel_rfl) trivial rfl ?_)))))))
     exact WD_done [0, 1] [2] (st' := ⟨[(2, S (bytesOf x1))], [.cells [.sp 0 53, .bsl 1 x1.length], .dead]⟩) (by kernel_rfl) (by kernel_rfl) (aI rfl rfl)
    ·refine WM_op (φ := True) (v := .one (.e (.bsl 1 x1.length))) (H' := [.cells [.sp 0 53, .bsl 1 x1.length], uO x1]) rfl rfl (by kernel_rfl) trivial rfl (aI (aI rfl rfl) (trivial)) (WD_all [4, 9] (n := 3) (by kernel_rfl) rfl (aI ?_ (?_)))
     ·refine WM_op (φ := True) (v := .one (.e (.sd 1))) (H' := [.cells [.sp 0 53, .bsl 1 x1.length], uO x1]) rfl rfl (by kernel_rfl) trivial rfl (aI (aI rfl rfl) (trivial)) (WD_all [9] (n := 2) (by kernel_rfl) rfl (WM_op (φ := True) (v := I (lI x1)) (H' := [.cells [.sp 0 53, .bsl 1 x1.length], uO x1]) rfl rfl (by kernel_rfl) trivial rfl (aI (aI rfl rfl) (trivial)) (WD_all [10] (n := 1) (by kernel_rfl) rfl (WM_op (φ := (lI x1) = (x1.length : Int) ∧ ∀ x ∈ x1, 0 ≤ x ∧ x ≤ 255) (v := S (bytesOf x1)) (H' := [.cells [.sp 0 53, .bsl 1 x1.length], .dead]) rfl rfl (by kernel_rfl) hg5 rfl (aI (aI rfl rfl) (trivial)) (WD_takeQ [11] [2] [2] (φ := True) (ls' := (tf true [12])) (st' := ⟨[(2, S (bytesOf x1))], [.cells [.sp 0 53, .bsl 1 x1.length], .dead]⟩) (n2 := 0) (by kernel_rfl) trivial rfl ?_)))))
      exact WD_done [0, 1] [2] (st' := ⟨[(2, S (bytesOf x1))], [.cells [.sp 0 53, .bsl 1 x1.length], .dead]⟩) (by kernel_rfl) (by kernel_rfl) (aI rfl rfl)
     ·refine WM_op (φ := True) (v := I (lI x1)) (H' := [.cells [.sp 0 53, .bsl 1 x1.length], uO x1]) rfl rfl (by kernel_rfl) trivial rfl (aI (aI rfl rfl) (trivial)) (WD_all [4] (n := 2) (by kernel_rfl) rfl (WM_op (φ := True) (v := .one (.e (.sd 1))) (H' := [.cells [.sp 0 53, .bsl 1 x1.length], uO x1]) rfl rfl (by kernel_rfl) trivial rfl (aI (aI rfl rfl) (trivial)) (WD_all [10] (n := 1) (by kernel_rfl) rfl (WM_op (φ := (lI x1) = (x1.length : Int) ∧ ∀ x ∈ x1, 0 ≤ x ∧ x ≤ 255) (v := S (bytesOf x1)) (H' := [.cells [.sp 0 53, .bsl 1 x1.length], .dead]) rfl rfl (by kernel_rfl) hg5 rfl (aI (aI rfl rfl) (trivial)) (WD_takeQ [11] [2] [2] (φ := True) (ls' := (tf true [12])) (st' := ⟨[(2, S (bytesOf x1))], [.cells [.sp 0 53, .bsl 1 x1.length], .dead]⟩) (n2 := 0) (by kernel_rfl) trivial rfl ?_)))))
      exact WD_done [0, 1] [2] (st' := ⟨[(2, S (bytesOf x1))], [.cells [.sp 0 53, .bsl 1 x1.length], .dead]⟩) (by kernel_rfl) (by kernel_rfl) (aI rfl rfl)
   ·refine WM_op (φ := True) (v := .one (.e (.bsl 1 x1.length))) (H' := [.cells [.sp 0 53, .bsl 1 x1.length], uO x1]) rfl rfl (by kernel_rfl) trivial rfl (aI (aI rfl rfl) (trivial)) (WD_all [3, 9] (n := 4) (by kernel_rfl) rfl (aI ?_ (?_)))
    ·refine WM_op (φ := True) (v := .one (.e (.bsl 1 x1.length))) (H' := [.cells [.sp 0 53, .bsl 1 x1.length], uO x1]) rfl rfl (by kernel_rfl) trivial rfl (aI (aI rfl rfl) (trivial)) (WD_all [4, 9] (n := 3) (by kernel_rfl) rfl (aI ?_ (?_)))
     ·refine WM_op (φ := True) (v := .one (.e (.sd 1))) (H' := [.cells [.sp 0 53, .bsl 1 x1.length], uO x1]) rfl rfl (by kernel_rfl) trivial rfl (aI (aI rfl rfl) (trivial)) (WD_all [9] (n := 2) (by kernel_rfl) rfl (WM_op (φ := True) (v := I (lI x1)) (H' := [.cells [.sp 0 53, .bsl 1 x1.length], uO x1]) rfl rfl (by kernel_rfl) trivial rfl (aI (aI rfl rfl) (trivial)) (WD_all [10] (n := 1) (by kernel_rfl) rfl (WM_op (φ := (lI x1) = (x1.length : Int) ∧ ∀ x ∈ x1, 0 ≤ x ∧ x ≤ 255) (v := S (bytesOf x1)) (H' := [.cells [.sp 0 53, .bsl 1 x1.length], .dead]) rfl rfl (by kernel_rfl) hg5 rfl (aI (aI rfl rfl) (trivial)) (WD_takeQ [11] [2] [2] (φ := True) (ls' := (tf true [12])) (st' := ⟨[(2, S (bytesOf x1))], [.cells [.sp 0 53, .bsl 1 x1.length], .dead]⟩) (n2 := 0) (by kernel_rfl) trivial rfl ?_)))))
      exact WD_done [0, 1] [2] (st' := ⟨[(2, S (bytesOf x1))], [.cells [.sp 0 53, .bsl 1 x1.length], .dead]⟩) (by kernel_rfl) (by kernel_rfl) (aI rfl rfl)
     ·refine WM_op (φ := True) (v := I (lI x1)) (H' := [.cells [.sp 0 53, .bsl 1 x1.length], uO x1]) rfl rfl (by kernel_rfl) trivial rfl (aI (aI rfl rfl) (trivial)) (WD_all [4] (n := 2) (by kernel_rfl) rfl (WM_op (φ := True) (v := .one (.e (.sd 1))) (H' := [.cells [.sp 0 53, .bsl 1 x1.length], uO x1]) rfl rfl (by kernel_rfl) trivial rfl (aI (aI rfl rfl) (trivial)) (WD_all [10] (n := 1) (by kernel_rfl) rfl (WM_op (φ := (lI x1) = (x1.length : Int) ∧ ∀ x ∈ x1, 0 ≤ x ∧ x ≤ 255) (v := S (bytesOf x1)) (H' := [.cells [.sp 0 53, .bsl 1 x1.length], .dead]) rfl rfl (by kernel_rfl) hg5 rfl (aI (aI rfl rfl) (trivial)) (WD_takeQ [11] [2] [2] (φ := True) (ls' := (tf true [12])) (st' := ⟨[(2, S (bytesOf x1))], [.cells [.sp 0 53, .bsl 1 x1.length], .dead]⟩) (n2 := 0) (by kernel_rfl) trivial rfl ?_)))))
      exact WD_done [0, 1] [2] (st' := ⟨[(2, S (bytesOf x1))], [.cells [.sp 0 53, .bsl 1 x1.length], .dead]⟩) (by kernel_rfl) (by kernel_rfl) (aI rfl rfl)
    ·refine WM_op (φ := True) (v := I (lI x1)) (H' := [.cells [.sp 0 53, .bsl 1 x1.length], uO x1]) rfl rfl (by kernel_rfl) trivial rfl (aI (aI rfl rfl) (trivial)) (WD_all [3] (n := 3) (by kernel_rfl) rfl (WM_op (φ := True) (v := .one (.e (.bsl 1 x1.length))) (H' := [.cells [.sp 0 53, .bsl 1 x1.length], uO x1]) rfl rfl (by kernel_rfl) trivial rfl (aI (aI rfl rfl) (trivial)) (WD_all [4] (n := 2) (by kernel_rfl) rfl (WM_op (φ := True) (v := .one (.e (.sd 1))) (H' := [.cells [.sp 0 53, .bsl 1 x1.length], uO x1]) rfl rfl (by kernel_rfl) trivial rfl (aI (aI rfl rfl) (trivial)) (WD_all [10] (n := 1) (by kernel_rfl) rfl (WM_op (φ := (lI x1) = (x1.length : Int) ∧ ∀ x ∈ x1, 0 ≤ x ∧ x ≤ 255) (v := S (bytesOf x1)) (H' := [.cells [.sp 0 53, .bsl 1 x1.length], .dead]) rfl rfl (by kernel_rfl) hg5 rfl (aI (aI rfl rfl) (trivial)) (WD_takeQ [11] [2] [2] (φ := True) (ls' := (tf true [12])) (st' := ⟨[(2, S (bytesOf x1))], [.cells [.sp 0 53, .bsl 1 x1.length], .dead]⟩) (n2 := 0) (by kernel_rfl) trivial rfl ?_)))))))
     exact WD_done [0, 1] [2] (st' := ⟨[(2, S (bytesOf x1))], [.cells [.sp 0 53, .bsl 1 x1.length], .dead]⟩) (by kernel_rfl) (by kernel_rfl) (aI rfl rfl)
  ·rintro _ _ ⟨rfl, rfl⟩
   refine thenS_n (W_ret ?_)
   cases h
   exact ⟨[0, 1], True, by kernel_rfl, trivial⟩

/- impl.PathText -/
def impl_PathText_L1 (x1 : List Nod) (x81 : List Int) : Nat → (List Int) → Int → Option ((List Int))
| 0, _, _ => none
| n + 1, x112, i113 =>
 iteO (decide (i113 < (((x81.length - 1) : Nat) : Int)))
 (guardO (0 ≤ i113 ∧ i113 < (((x81.length - 1) : Nat) : Int)) <|
 bindO (strings_Builder_WriteByte x112 47) fun x147 =>
 guardO (0 ≤ (x81.getD (1 + i113.toNat) 0) ∧ (x81.getD (1 + i113.toNat) 0) < ((x1.length : Nat) : Int)) <|
 bindO (strings_Builder_WriteString x147 ((x1.getD ((x81.getD (1 + i113.toNat) 0).toNat) dnod).name)) fun (x150, i151) =>
 impl_PathText_L1 x1 x81 n x150 (w64 (i113 + 1)))
 (some x112)

theorem impl_PathText_L1_ok (w : World) (X : Nat → Prop) (θ : List Loc) (x1 : List Nod) (x81 : List Int) (x134 : (List Int)) : ∀ (n : Nat) (x112 : List Int) (i113 : Int), impl_PathText_L1 x1 x81 n x112 i113 = some x134 → WL EE ⟨w, X, θ, 34, 1⟩ (subC [1, 1, 1, 1, 1, 0, 1, 4, 4] (bodyC Tryz.f47)) (fun (e : Exit) (s : St) => e = .exit 0 ∧ s = ⟨[(6, pA 1 0)], [nR x1, .cells [.sp 1 53, .bsl 2 x134.length], uO x134]⟩) ⟨[(0, sF 0 x1), (6, pA 1 0), (19, SL 2 1 (x81.length - 1)), (20, I (((x81.length - 1) : Nat) : Int)), (21, I i113)], [nR x1, .cells [.sp 1 53, .bsl 3 x112.length], iO x81, uO x112]⟩ := by
  intro n
  induction n with
  | zero => intro _ _ h; exact none_e h
  | succ n ih =>
    intro x112 i113 h
    rw [impl_PathText_L1] at h
    refine WL_round ?_
    refine Wsr ((Wp 1 [0, 1, 2, 3] [0, 6, 19, 20, 21, 22] T2 ⟨[(0, sF 0 x1), (6, pA 1 0), (19, SL 2 1 (x81.length - 1)), (20, I (((x81.length - 1) : Nat) : Int)), (21, I i113), (22, B (decide (i113 < (((x81.length - 1) : Nat) : Int))))], [nR x1, .cells [.sp 1 53, .bsl 3 x112.length], iO x81, uO x112]⟩ t2 (Wnt ((W_seq (iteO_e h (fun hb137 h => W_true rfl hb137 ?_) (fun hb137 h => W_false rfl hb137 ?_)))))))
    ·refine Ww [0, 1, 2, 3] [0, 6, 19, 20, 21] ⟨[(0, sF 0 x1), (6, pA 1 0), (19, SL 2 1 (x81.length - 1)), (20, I (((x81.length - 1) : Nat) : Int)), (21, I i113)], [nR x1, .cells [.sp 1 53, .bsl 3 x112.length], iO x81, uO x112]⟩ (W_skip (thenS_n (W_seq (W_block (Wsr ((guardO_e h (fun hg146 h => (Wp 3 [0, 1, 2, 3] [0, 6, 8, 19, 20, 21] ((0 ≤ i113 ∧ i113 < (((x81.length - 1) : Nat) : Int)) ∧ T2) ⟨[(0, sF 0 x1), (6, pA 1 0), (8, I (x81.getD (1 + i113.toNat) 0)), (19, SL 2 1 (x81.length - 1)), (20, I (((x81.length - 1) : Nat) : Int)), (21, I i113)], [nR x1, .cells [.sp 1 53, .bsl 3 x112.length], iO x81, uO x112]⟩ ⟨hg146, trivial, trivial⟩ (Wnt ((Wsr ((bindO_e h (fun x147 hc148 h => (Wc [.own 1, .own 3] rfl rfl rfl Tryz.func32 rfl (strings_Builder_WriteByte_ok x112 47 x147 hc148) (aI (trivial) (aI (trivial) (trivial))) rfl (Wb [0, 1, 2, 4] [0, 6, 8, 19, 20, 21] ⟨[(0, sF 0 x1), (6, pA 1 0), (8, I (x81.getD (1 + i113.toNat) 0)), (19, SL 2 1 (x81.length - 1)), (20, I (((x81.length - 1) : Nat) : Int)), (21, I i113)], [nR x1, .cells [.sp 1 53, .bsl 3 x147.length], iO x81, uO x147]⟩ (Wnt ((W_region (guardO_e h (fun hg149 h => (Wp 5 [0, 1, 2, 3] [0, 6, 19, 20, 21, 30] ((0 ≤ (x81.getD (1 + i113.toNat) 0) ∧ (x81.getD (1 + i113.toNat) 0) < (lI x1)) ∧ T2) ⟨[(0, sF 0 x1), (6, pA 1 0), (19, SL 2 1 (x81.length - 1)), (20, I (((x81.length - 1) : Nat) : Int)), (21, I i113), (30, S ((x1.getD ((x81.getD (1 + i113.toNat) 0).toNat) dnod).name))], [nR x1, .cells [.sp 1 53, .bsl 3 x147.length], iO x81, uO x147]⟩ ⟨hg149, trivial, trivial⟩ (bindO_e h (fun v153 hc152 h => ?_)))))))))))))))))))))))))
     obtain ⟨x150, i151⟩ := v153
     refine Wc [.own 1, .own 3] rfl rfl rfl Tryz.func29 rfl (strings_Builder_WriteString_ok x147 ((x1.getD ((x81.getD (1 + i113.toNat) 0).toNat) dnod).name) x150 i151 hc152) (aI (trivial) (aI (trivial) (trivial))) rfl (Wb [0, 1, 2, 4] [0, 6, 19, 20, 21] ⟨[(0, sF 0 x1), (6, pA 1 0), (19, SL 2 1 (x81.length - 1)), (20, I (((x81.length - 1) : Nat) : Int)), (21, I i113)], [nR x1, .cells [.sp 1 53, .bsl 3 x150.length], iO x81, uO x150]⟩ (WO_nil rfl (blockS_n (thenS_n (W_region (Wp 2 [0, 1, 2, 3] [0, 6, 19, 20, 21] T2 ⟨[(0, sF 0 x1), (6, pA 1 0), (19, SL 2 1 (x81.length - 1)), (20, I (((x81.length - 1) : Nat) : Int)), (21, I (w64 (i113 + 1)))], [nR x1, .cells [.sp 1 53, .bsl 3 x150.length], iO x81, uO x150]⟩ t2 (Wnt (?_))))))))
     exact ih _ _ h
    ·refine Ww [0, 1, 3] [6] ⟨[(6, pA 1 0)], [nR x1, .cells [.sp 1 53, .bsl 2 x112.length], uO x112]⟩ (W_exit (thenS_e (thenS_e ?_)))
     cases h
     exact aI rfl rfl

def impl_PathText (n : Nat) (x1 : List Nod) (i2 : Int) : Option (Str) :=
 bindO (impl_PathTo n x1 i2) fun x81 =>
 iteO (decide (((x81.length : Nat) : Int) = 0))
 (some [])
 (iteO (decide (((x81.length : Nat) : Int) = 1))
 (some [47])
 (guardO (0 ≤ (1 : Int) ∧ (1 : Int) ≤ ((x81.length : Nat) : Int)) <|
 bindO (impl_PathText_L1 x1 x81 n ([] : List Int) 0) fun x134 =>
 bindO (strings_Builder_String x134) fun (k155, s156) =>
 some s156))

theorem impl_PathText_ok (n : Nat) (x1 : List Nod) (i2 : Int) (s80 : Str) (h : impl_PathText n x1 i2 = some s80) : FOk EE 47 [sF 0 x1, I i2] [nR x1] (S s80) [nR x1] := by
  unfold impl_PathText at h
  refine FOk_of_W 34 1 Tryz.func47 rfl rfl (Nat.le_of_ble_eq_true rfl) rfl (fun w X θ => ?_)
  refine Wsr ((Ws 1 [0] [0, 1] ⟨[(0, sF 0 x1), (1, I i2)], [nR x1]⟩ (Wnt ((W_seq (W_region ?_))))))
  refine Ws 2 [0] [0, 9, 10] ⟨[(0, sF 0 x1), (9, sF 0 x1), (10, I i2)], [nR x1]⟩ (bindO_e h (fun x81 hc82 h => (Wc [.ro 0] rfl rfl rfl Tryz.func74 rfl (impl_PathTo_ok n x1 i2 x81 hc82) (aI (aI rfl rfl) (trivial)) rfl (Ws 1 [0, 1] [0, 5] ⟨[(0, sF 0 x1), (5, sF 1 x81)], [nR x1, iO x81]⟩ (Wnt ((W_seq ?_)))))))
  refine Wsr ((Wp 3 [0, 1] [0, 5, 14] T3 ⟨[(0, sF 0 x1), (5, sF 1 x81), (14, B (decide ((lI x81) = 0)))], [nR x1, iO x81]⟩ t3 (Wnt ((iteO_e h (fun hb84 h => W_true rfl hb84 ?_) (fun hb84 h => W_false rfl hb84 ?_))))))
  ·refine Wsr ((Ws 1 [0] [4] ⟨[(4, S [])], [nR x1]⟩ (Wnt ((W_ret (thenS_r ?_))))))
   cases h
   exact ⟨[0], True, by kernel_rfl, trivial⟩
  ·refine Ww [0, 1] [0, 5] ⟨[(0, sF 0 x1), (5, sF 1 x81)], [nR x1, iO x81]⟩ (W_skip (thenS_n (W_seq (Wsr ((Wp 3 [0, 1] [0, 5, 17] T3 ⟨[(0, sF 0 x1), (5, sF 1 x81), (17, B (decide ((lI x81) = 1)))], [nR x1, iO x81]⟩ t3 (Wnt ((iteO_e h (fun hb86 h => W_true rfl hb86 ?_) (fun hb86 h => W_false rfl hb86 ?_))))))))))
   ·refine Wsr ((Ws 1 [0] [4] ⟨[(4, S [47])], [nR x1]⟩ (Wnt ((W_ret (thenS_r ?_))))))
    cases h
    exact ⟨[0], True, by kernel_rfl, trivial⟩
   ·refine Ww [0, 1] [0, 5] ⟨[(0, sF 0 x1), (5, sF 1 x81)], [nR x1, iO x81]⟩ (W_skip (thenS_n (Wsr ((Wp 1 [0, 1, 2] [0, 5, 6] T2 ⟨[(0, sF 0 x1), (5, sF 1 x81), (6, pA 2 0)], [nR x1, iO x81, .cells [.sp 2 53, .nsl]]⟩ t2 (WO_bld 2 rfl (Wnt ((W_seq (Wsr ((guardO_e h (fun hg87 h => (Wp 4 [0, 2, 1, 3] [0, 6, 19, 20, 21] ((0 ≤ (1 : Int) ∧ (1 : Int) ≤ (lI x81)) ∧ T2) ⟨[(0, sF 0 x1), (6, pA 1 0), (19, SL 2 1 (x81.length - 1)), (20, I (((x81.length - 1) : Nat) : Int)), (21, I 0)], [nR x1, .cells [.sp 1 53, .bsl 3 (([] : List Int).length)], iO x81, uO ([] : List Int)]⟩ ⟨hg87, trivial, trivial⟩ (Wnt ((W_block (W_loop (bindO_e h (fun x134 hx134 h => (WL_cut (impl_PathText_L1_ok w X θ x1 x81 x134 n ([] : List Int) 0 hx134) ?_)))))))))))))))))))))
    rintro _ _ ⟨rfl, rfl⟩
    refine blockS_y (thenS_n (Wsr ((bindO_e h (fun v158 hc157 h => ?_)))))
    obtain ⟨k155, s156⟩ := v158
    refine Wc [.own 1, .own 2] rfl rfl rfl Tryz.func33 rfl (strings_Builder_String_ok x134 k155 s156 hc157) (aI (trivial) (aI (trivial) (trivial))) rfl (Ws 1 [0] [4] ⟨[(4, S s156)], [nR x1]⟩ (Wnt ((W_ret ?_))))
    cases h
    exact ⟨[0], True, by kernel_rfl, trivial⟩

/- impl.addPath -/
def impl_addPath (n : Nat) (x1 : List Nod) (s2 : Str) (i3 : Int) : Option ((List Nod) × Bool) :=
 bindO (impl_upperNode n x1 s2) fun i26 =>
 bindO (strings_LastIndexByte n s2 47) fun i28 =>
 guardO (0 ≤ (w64 (i28 + 1)) ∧ (w64 (i28 + 1)) ≤ ((s2.length : Nat) : Int)) <|
 bindO (impl_AddNode n x1 i26 (s2.drop ((w64 (i28 + 1)).toNat)) i3) fun (x31, i32, b33) =>
 bindO (iteO (!b33)
 (some true)
 (bindO (impl_PathText n x31 i32) fun s41 =>
 some (!decide (s41 = s2)))) fun b38 =>
 iteO b38
 (some (([] : List Nod), false))
 (some (x31, true))

theorem impl_addPath_ok (n : Nat) (x1 : List Nod) (s2 : Str) (i3 : Int) (x24 : List Nod) (b25 : Bool) (h : impl_addPath n x1 s2 i3 = some (x24, b25)) : FOk EE 40 [sF 0 x1, S s2, I i3] [nR x1] (.tup [.e (.sl 1 0 x24.length), .e (cB b25)]) [nR x1, nO x24] := by
  unfold impl_addPath at h
  refine FOk_of_W 36 1 Tryz.func40 rfl rfl (Nat.le_of_ble_eq_true rfl) rfl (fun w X θ => ?_)
  refine Wsr ((Ws 2 [0] [0, 1, 2] ⟨[(0, sF 0 x1), (1, S s2), (2, I i3)], [nR x1]⟩ (Wnt ((W_seq (W_region ?_))))))
  refine Ws 3 [0] [1, 2, 12, 13, 14] ⟨[(1, S s2), (2, I i3), (12, sF 0 x1), (13, sF 0 x1), (14, S s2)], [nR x1]⟩ (bindO_e h (fun i26 hc27 h => (Wc [.ro 0] rfl rfl rfl Tryz.func69 rfl (impl_upperNode_ok n x1 s2 i26 hc27) (aI (aI rfl rfl) (trivial)) rfl (Ws 2 [0] [1, 2, 12, 15, 16, 17] ⟨[(1, S s2), (2, I i3), (12, sF 0 x1), (15, I i26), (16, S s2), (17, S s2)], [nR x1]⟩ (bindO_e h (fun i28 hc29 h => (Wc [] rfl rfl rfl Tryz.func70 rfl (strings_LastIndexByte_ok n s2 47 i28 hc29) (trivial) rfl (guardO_e h (fun hg30 h => ?_)))))))))
  refine Wp 3 [0] [1, 12, 15, 20, 21] (True ∧ ((0 ≤ (w64 (i28 + 1)) ∧ (w64 (i28 + 1)) ≤ (lI s2)) ∧ True)) ⟨[(1, S s2), (12, sF 0 x1), (15, I i26), (20, S (s2.drop ((w64 (i28 + 1)).toNat))), (21, I i3)], [nR x1]⟩ ⟨trivial, hg30, trivial⟩ (bindO_e h (fun v45 hc34 h => ?_))
  obtain ⟨x31, i32, b33⟩ := v45
  refine Wc [.ro 0] rfl rfl rfl Tryz.func68 rfl (impl_AddNode_ok n x1 i26 (s2.drop ((w64 (i28 + 1)).toNat)) i3 x31 i32 b33 hc34) (aI (aI rfl rfl) (trivial)) rfl (Ws 7 [0, 1] [1, 8, 9, 10] ⟨[(1, S s2), (8, sF 1 x31), (9, I i32), (10, B b33)], [nR x1, nO x31]⟩ (Wnt ((W_seq (W_seq (W_region ?_))))))
  refine Ws 3 [0, 1] [1, 8, 9, 28] ⟨[(1, S s2), (8, sF 1 x31), (9, I i32), (28, B (!b33))], [nR x1, nO x31]⟩ (bindO_e h (fun b38 hv39 h => (WO_thru ⟨[(8, sF 1 x31), (34, B b38)], [nR x1, nO x31]⟩ ?_ ?_)))
  ·refine iteO_e hv39 (fun hb40 hv39 => WO_known 28 true rfl hb40 ?_) (fun hb40 hv39 => WO_known 28 false rfl hb40 ?_)
   ·refine Ws 6 [0, 1] [8, 34] ⟨[(8, sF 1 x31), (34, B true)], [nR x1, nO x31]⟩ ?_
    cases hv39
    exact WO_nil rfl ⟨rfl, rfl⟩
   ·refine Ws 2 [0, 1] [1, 8, 28, 29, 30] ⟨[(1, S s2), (8, sF 1 x31), (28, B false), (29, sF 1 x31), (30, I i32)], [nR x1, nO x31]⟩ (bindO_e hv39 (fun s41 hc42 hv39 => (Wc [.ro 1] rfl rfl rfl Tryz.func47 rfl (impl_PathText_ok n x31 i32 s41 hc42) (aI (aI rfl rfl) (trivial)) rfl (Wp 3 [0, 1] [8, 34] T2 ⟨[(8, sF 1 x31), (34, B (!decide (s41 = s2)))], [nR x1, nO x31]⟩ t2 ?_))))
    cases hv39
    exact WO_nil rfl ⟨rfl, rfl⟩
  ·refine thenS_n (iteO_e h (fun hb44 h => W_true rfl hb44 ?_) (fun hb44 h => W_false rfl hb44 ?_))
   ·refine Wsr ((Ws 2 [0] [6, 7] ⟨[(6, .one (.e (.nsl))), (7, B false)], [nR x1]⟩ (WO_nilrow 6 .nod rfl (Wb [0, 1] [6, 7] ⟨[(6, .one (.e (.sl 1 0 (([] : List Nod).length)))), (7, B false)], [nR x1, nO ([] : List Nod)]⟩ (Wnt ((W_ret (thenS_r ?_))))))))
    cases h
    exact ⟨[0, 1], True, by kernel_rfl, trivial⟩
   ·refine Ww [0, 1] [8] ⟨[(8, sF 1 x31)], [nR x1, nO x31]⟩ (W_skip (thenS_n (Wsr ((Ws 3 [0, 1] [6, 7] ⟨[(6, sF 1 x31), (7, B true)], [nR x1, nO x31]⟩ (Wnt ((W_ret ?_))))))))
    cases h
    exact ⟨[0, 1], True, by kernel_rfl, trivial⟩

/- impl.applyEdit -/
def impl_applyEdit (n : Nat) (x1 : List Nod) (x2 : Edt) : Option ((List Nod) × Bool) :=
 bindO (impl_ResolvePath n x1 x2.path) fun i155 =>
 iteO (decide (x2.kind = 1))
 (iteO (!decide (x2.value = 0))
 (some (([] : List Nod), false))
 (bindO (impl_DropNode n x1 i155) fun (x271, b272) =>
 some (x271, b272)))
 (iteO (decide (x2.kind = 0))
 (iteO (decide (0 ≤ i155))
 (bindO (impl_SetValue n x1 i155 x2.value) fun (x297, b298) =>
 some (x297, b298))
 (bindO (impl_addPath n x1 x2.path x2.value) fun (x301, b302) =>
 some (x301, b302)))
 (some (([] : List Nod), false)))

theorem impl_applyEdit_ok (n : Nat) (x1 : List Nod) (x2 : Edt) (x153 : List Nod) (b154 : Bool) (h : impl_applyEdit n x1 x2 = some (x153, b154)) : FOk EE 120 [sF 0 x1, AGG [cI x2.kind, cS x2.path, cI x2.value]] [nR x1] (.tup [.e (.sl 1 0 x153.length), .e (cB b154)]) [nR x1, nO x153] := by
  unfold impl_applyEdit at h
  refine FOk_of_W 42 1 Tryz.func120 rfl rfl (Nat.le_of_ble_eq_true rfl) rfl (fun w X θ => ?_)
  refine Wsr ((Wp 3 [0, 1] [0, 3] T2 ⟨[(0, sF 0 x1), (3, pA 1 0)], [nR x1, .cells [cI x2.kind, cS x2.path, cI x2.value]]⟩ t2 (Wnt ((W_seq (W_region ?_))))))
  refine Wp 3 [0, 1] [0, 3, 7, 9] T2 ⟨[(0, sF 0 x1), (3, pA 1 0), (7, sF 0 x1), (9, S x2.path)], [nR x1, .cells [cI x2.kind, cS x2.path, cI x2.value]]⟩ t2 (bindO_e h (fun i155 hc156 h => (Wc [.ro 0] rfl rfl rfl Tryz.func78 rfl (impl_ResolvePath_ok n x1 x2.path i155 hc156) (aI (aI rfl rfl) (trivial)) rfl (Ws 1 [0, 1] [0, 3, 6] ⟨[(0, sF 0 x1), (3, pA 1 0), (6, I i155)], [nR x1, .cells [cI x2.kind, cS x2.path, cI x2.value]]⟩ (Wnt ((W_seq ?_)))))))
  refine Wsr ((Wp 2 [0, 1] [0, 3, 6, 12] T2 ⟨[(0, sF 0 x1), (3, pA 1 0), (6, I i155), (12, I x2.kind)], [nR x1, .cells [cI x2.kind, cS x2.path, cI x2.value]]⟩ t2 (Wnt ((W_block (W_seq ?_))))))
  refine W_region (Wp 2 [0, 1] [0, 3, 6, 12, 13] T2 ⟨[(0, sF 0 x1), (3, pA 1 0), (6, I i155), (12, I x2.kind), (13, B (decide (x2.kind = 1)))], [nR x1, .cells [cI x2.kind, cS x2.path, cI x2.value]]⟩ t2 (Wnt ((iteO_e h (fun hb268 h => W_true rfl hb268 ?_) (fun hb268 h => W_false rfl hb268 ?_)))))
  ·refine W_seq (Wsr ((Wp 3 [0] [0, 6, 17] T3 ⟨[(0, sF 0 x1), (6, I i155), (17, B (!decide (x2.value = 0)))], [nR x1]⟩ t3 (Wnt ((iteO_e h (fun hb270 h => W_true rfl hb270 ?_) (fun hb270 h => W_false rfl hb270 ?_)))))))
   ·refine Wsr ((Ws 2 [0] [4, 5] ⟨[(4, .one (.e (.nsl))), (5, B false)], [nR x1]⟩ (WO_nilrow 4 .nod rfl (Wb [0, 1] [4, 5] ⟨[(4, .one (.e (.sl 1 0 (([] : List Nod).length)))), (5, B false)], [nR x1, nO ([] : List Nod)]⟩ (Wnt ((W_ret (thenS_r (blockS_r (thenS_r ?_))))))))))
    cases h
    exact ⟨[0, 1], True, by kernel_rfl, trivial⟩
   ·refine Ww [0] [0, 6] ⟨[(0, sF 0 x1), (6, I i155)], [nR x1]⟩ (W_skip (thenS_n (Wsr ((Ws 2 [0] [18, 19] ⟨[(18, sF 0 x1), (19, I i155)], [nR x1]⟩ (bindO_e h (fun v274 hc273 h => ?_)))))))
    obtain ⟨x271, b272⟩ := v274
    refine Wc [.ro 0] rfl rfl rfl Tryz.func147 rfl (impl_DropNode_ok n x1 i155 x271 b272 hc273) (aI (aI rfl rfl) (trivial)) rfl (Ws 4 [0, 1] [4, 5] ⟨[(4, sF 1 x271), (5, B b272)], [nR x1, nO x271]⟩ (Wnt ((W_ret (blockS_r (thenS_r ?_))))))
    cases h
    exact ⟨[0, 1], True, by kernel_rfl, trivial⟩
  ·refine Wsr ((Wp 2 [0, 1] [0, 3, 6, 23] T2 ⟨[(0, sF 0 x1), (3, pA 1 0), (6, I i155), (23, B (decide (x2.kind = 0)))], [nR x1, .cells [cI x2.kind, cS x2.path, cI x2.value]]⟩ t2 (Wnt ((iteO_e h (fun hb290 h => W_true rfl hb290 ?_) (fun hb290 h => W_false rfl hb290 ?_))))))
   ·refine W_seq (Wsr ((Wp 2 [0, 1] [0, 3, 6, 26] T2 ⟨[(0, sF 0 x1), (3, pA 1 0), (6, I i155), (26, B (decide (0 ≤ i155)))], [nR x1, .cells [cI x2.kind, cS x2.path, cI x2.value]]⟩ t2 (Wnt ((iteO_e h (fun hb296 h => W_true rfl hb296 ?_) (fun hb296 h => W_false rfl hb296 ?_)))))))
    ·refine Wsr ((Wp 4 [0] [27, 28, 30] T2 ⟨[(27, sF 0 x1), (28, I i155), (30, I x2.value)], [nR x1]⟩ t2 (bindO_e h (fun v300 hc299 h => ?_))))
     obtain ⟨x297, b298⟩ := v300
     refine Wc [.ro 0] rfl rfl rfl Tryz.func148 rfl (impl_SetValue_ok n x1 i155 x2.value x297 b298 hc299) (aI (aI rfl rfl) (trivial)) rfl (Ws 4 [0, 1] [4, 5] ⟨[(4, sF 1 x297), (5, B b298)], [nR x1, nO x297]⟩ (Wnt ((W_ret (thenS_r (blockS_r (thenS_r ?_)))))))
     cases h
     exact ⟨[0, 1], True, by kernel_rfl, trivial⟩
    ·refine Ww [0, 1] [0, 3] ⟨[(0, sF 0 x1), (3, pA 1 0)], [nR x1, .cells [cI x2.kind, cS x2.path, cI x2.value]]⟩ (W_skip (thenS_n (Wsr ((Wp 5 [0] [34, 36, 38] T3 ⟨[(34, sF 0 x1), (36, S x2.path), (38, I x2.value)], [nR x1]⟩ t3 (bindO_e h (fun v304 hc303 h => ?_)))))))
     obtain ⟨x301, b302⟩ := v304
     refine Wc [.ro 0] rfl rfl rfl Tryz.func40 rfl (impl_addPath_ok n x1 x2.path x2.value x301 b302 hc303) (aI (aI rfl rfl) (trivial)) rfl (Ws 4 [0, 1] [4, 5] ⟨[(4, sF 1 x301), (5, B b302)], [nR x1, nO x301]⟩ (Wnt ((W_ret (blockS_r (thenS_r ?_))))))
     cases h
     exact ⟨[0, 1], True, by kernel_rfl, trivial⟩
   ·refine Ww [0] [] ⟨[], [nR x1]⟩ (W_skip (blockS_n (thenS_n (Wsr ((Ws 2 [0] [4, 5] ⟨[(4, .one (.e (.nsl))), (5, B false)], [nR x1]⟩ (WO_nilrow 4 .nod rfl (Wb [0, 1] [4, 5] ⟨[(4, .one (.e (.sl 1 0 (([] : List Nod).length)))), (5, B false)], [nR x1, nO ([] : List Nod)]⟩ (Wnt ((W_ret ?_)))))))))))
    cases h
    exact ⟨[0, 1], True, by kernel_rfl, trivial⟩

/- impl.ApplyEdits -/
def impl_ApplyEdits_L1 (x2 : List Edt) (x1 : List Nod) : Nat → (List Nod) → Int → Option ((Unit) ⊕ ((List Nod)))
| 0, _, _ => none
| n + 1, x105, i106 =>
 iteO (decide (i106 < ((x2.length : Nat) : Int)))
 (guardO (0 ≤ i106 ∧ i106 < ((x2.length : Nat) : Int)) <|
 bindO (impl_applyEdit n x105 (x2.getD i106.toNat dedt)) fun (x137, b138) =>
 iteO (!b138)
 (some (.inl ()))
 (impl_ApplyEdits_L1 x2 x1 n x137 (w64 (i106 + 1))))
 (some (.inr x105))

theorem impl_ApplyEdits_L1_ok (w : World) (X : Nat → Prop) (θ : List Loc) (x2 : List Edt) (x1 : List Nod) (v : (Unit) ⊕ ((List Nod))) : ∀ (n : Nat) (x105 : List Nod) (i106 : Int), impl_ApplyEdits_L1 x2 x1 n x105 i106 = some v → WL EE ⟨w, X, θ, 38, 2⟩ (subC [1, 1, 1, 0, 1, 4, 4] (bodyC Tryz.f84)) (fun (e : Exit) (s : St) => (match v with | (.inl _) => e = .ret ∧ s = ⟨[(4, .one (.e (.sl 2 0 (([] : List Nod).length)))), (5, B false)], [nR x1, eR x2, nO ([] : List Nod)]⟩ | (.inr x125) => e = .exit 0 ∧ s = ⟨[(6, sF 2 x125)], [nR x1, eR x2, nO x125]⟩ : Prop)) ⟨[(6, sF 2 x105), (21, sF 1 x2), (22, I ((x2.length : Nat) : Int)), (23, I i106)], [nR x1, eR x2, nO x105]⟩ := by
  intro n
  induction n with
  | zero => intro _ _ h; exact none_e h
  | succ n ih =>
    intro x105 i106 h
    rw [impl_ApplyEdits_L1] at h
    refine WL_round ?_
    refine Wsr ((Wp 1 [0, 1, 2] [6, 21, 22, 23, 24] T2 ⟨[(6, sF 2 x105), (21, sF 1 x2), (22, I (lI x2)), (23, I i106), (24, B (decide (i106 < (lI x2))))], [nR x1, eR x2, nO x105]⟩ t2 (Wnt ((W_seq (iteO_e h (fun hb128 h => W_true rfl hb128 ?_) (fun hb128 h => W_false rfl hb128 ?_)))))))
    ·refine Ww [0, 1, 2] [6, 21, 22, 23] ⟨[(6, sF 2 x105), (21, sF 1 x2), (22, I (lI x2)), (23, I i106)], [nR x1, eR x2, nO x105]⟩ (W_skip (thenS_n (W_seq (W_block (Wsr ((guardO_e h (fun hg136 h => (Wp 4 [0, 1, 2, 3] [6, 8, 21, 22, 23] ((0 ≤ i106 ∧ i106 < (lI x2)) ∧ T4) ⟨[(6, sF 2 x105), (8, pA 3 0), (21, sF 1 x2), (22, I (lI x2)), (23, I i106)], [nR x1, eR x2, nO x105, .cells [cI ((x2.getD i106.toNat dedt).kind), cS ((x2.getD i106.toNat dedt).path), cI ((x2.getD i106.toNat dedt).value)]]⟩ ⟨hg136, trivial, trivial, trivial, trivial⟩ (Wnt ((Wsr ((Wp 2 [0, 1, 2] [21, 22, 23, 28, 29] T2 ⟨[(21, sF 1 x2), (22, I (lI x2)), (23, I i106), (28, sF 2 x105), (29, AGG [cI ((x2.getD i106.toNat dedt).kind), cS ((x2.getD i106.toNat dedt).path), cI ((x2.getD i106.toNat dedt).value)])], [nR x1, eR x2, nO x105]⟩ t2 (bindO_e h (fun v142 hc139 h => ?_))))))))))))))))
     obtain ⟨x137, b138⟩ := v142
     refine Wc [.ro 2] rfl rfl rfl Tryz.func120 rfl (impl_applyEdit_ok n x105 (x2.getD i106.toNat dedt) x137 b138 hc139) (aI (aI rfl rfl) (trivial)) rfl (Ws 5 [0, 1, 3] [9, 10, 21, 22, 23] ⟨[(9, sF 2 x137), (10, B b138), (21, sF 1 x2), (22, I (lI x2)), (23, I i106)], [nR x1, eR x2, nO x137]⟩ (Wnt ((W_seq (Wsr ((Ws 2 [0, 1, 2] [9, 21, 22, 23, 34] ⟨[(9, sF 2 x137), (21, sF 1 x2), (22, I (lI x2)), (23, I i106), (34, B (!b138))], [nR x1, eR x2, nO x137]⟩ (Wnt ((iteO_e h (fun hb141 h => W_true rfl hb141 ?_) (fun hb141 h => W_false rfl hb141 ?_)))))))))))
     ·refine Wsr ((Ws 2 [0, 1] [4, 5] ⟨[(4, .one (.e (.nsl))), (5, B false)], [nR x1, eR x2]⟩ (WO_nilrow 4 .nod rfl (Wb [0, 1, 2] [4, 5] ⟨[(4, .one (.e (.sl 2 0 (([] : List Nod).length)))), (5, B false)], [nR x1, eR x2, nO ([] : List Nod)]⟩ (Wnt ((W_ret (thenS_r (blockS_r (thenS_r (thenS_r ?_)))))))))))
      cases h
      exact aI rfl rfl
     ·refine Ww [0, 1, 2] [9, 21, 22, 23] ⟨[(9, sF 2 x137), (21, sF 1 x2), (22, I (lI x2)), (23, I i106)], [nR x1, eR x2, nO x137]⟩ (W_skip (thenS_n (W_region (Ws 2 [0, 1, 2] [6, 21, 22, 23] ⟨[(6, sF 2 x137), (21, sF 1 x2), (22, I (lI x2)), (23, I i106)], [nR x1, eR x2, nO x137]⟩ (WO_nil rfl (blockS_n (thenS_n (W_region (Wp 2 [0, 1, 2] [6, 21, 22, 23] T2 ⟨[(6, sF 2 x137), (21, sF 1 x2), (22, I (lI x2)), (23, I (w64 (i106 + 1)))], [nR x1, eR x2, nO x137]⟩ t2 (Wnt (?_)))))))))))
      exact ih _ _ h
    ·refine Ww [0, 1, 2] [6] ⟨[(6, sF 2 x105)], [nR x1, eR x2, nO x105]⟩ (W_exit (thenS_e (thenS_e ?_)))
     cases h
     exact aI rfl rfl

def impl_ApplyEdits (n : Nat) (x1 : List Nod) (x2 : List Edt) : Option ((List Nod) × Bool) :=
 bindO (impl_ValidTree n x1) fun b74 =>
 iteO ((!b74) || (decide (24 < ((x2.length : Nat) : Int))))
 (some (([] : List Nod), false))
 (bindO (slices_Clone_Node x1) fun x81 =>
 bindO (impl_ApplyEdits_L1 x2 x1 n x81 0) fun v143 =>
 match v143 with
 | (.inl _) => (some (([] : List Nod), false))
 | (.inr x125) => (some (x125, true))
)

theorem impl_ApplyEdits_ok (n : Nat) (x1 : List Nod) (x2 : List Edt) (x72 : List Nod) (b73 : Bool) (h : impl_ApplyEdits n x1 x2 = some (x72, b73)) : FOk EE 84 [sF 0 x1, sF 1 x2] [nR x1, eR x2] (.tup [.e (.sl 2 0 x72.length), .e (cB b73)]) [nR x1, eR x2, nO x72] := by
  unfold impl_ApplyEdits at h
  refine FOk_of_W 38 2 Tryz.func84 rfl rfl (Nat.le_of_ble_eq_true rfl) rfl (fun w X θ => ?_)
  refine Wsr ((Ws 2 [0, 1] [0, 1] ⟨[(0, sF 0 x1), (1, sF 1 x2)], [nR x1, eR x2]⟩ (Wnt ((W_seq (W_seq ?_))))))
  refine W_region (Ws 1 [0, 1] [0, 1, 11] ⟨[(0, sF 0 x1), (1, sF 1 x2), (11, sF 0 x1)], [nR x1, eR x2]⟩ (bindO_e h (fun b74 hc75 h => (Wc [.ro 0] rfl rfl rfl Tryz.func18 rfl (impl_ValidTree_ok n x1 b74 hc75) (aI (aI rfl rfl) (trivial)) rfl (Ws 2 [0, 1] [0, 1, 14] ⟨[(0, sF 0 x1), (1, sF 1 x2), (14, B (!b74))], [nR x1, eR x2]⟩ (WO_thru ⟨[(0, sF 0 x1), (1, sF 1 x2), (18, B ((!b74) || (decide (24 < (lI x2)))))], [nR x1, eR x2]⟩ ?_ ?_))))))
  ·refine WO_if 14 rfl (fun hb78 => ?_) (fun hb78 => ?_)
   ·refine Ws 4 [0, 1] [0, 1, 18] ⟨[(0, sF 0 x1), (1, sF 1 x2), (18, B true)], [nR x1, eR x2]⟩ ?_
    exact WO_nil rfl ⟨rfl, by first | rfl | (rw [hb78]; first | done | rfl)⟩
   ·refine Wp 4 [0, 1] [0, 1, 18] T3 ⟨[(0, sF 0 x1), (1, sF 1 x2), (18, B (decide (24 < (lI x2))))], [nR x1, eR x2]⟩ t3 ?_
    exact WO_nil rfl ⟨rfl, by first | rfl | (rw [hb78]; first | done | rfl)⟩
  ·refine thenS_n (iteO_e h (fun hb80 h => W_true rfl hb80 ?_) (fun hb80 h => W_false rfl hb80 ?_))
   ·refine Wsr ((Ws 2 [0, 1] [4, 5] ⟨[(4, .one (.e (.nsl))), (5, B false)], [nR x1, eR x2]⟩ (WO_nilrow 4 .nod rfl (Wb [0, 1, 2] [4, 5] ⟨[(4, .one (.e (.sl 2 0 (([] : List Nod).length)))), (5, B false)], [nR x1, eR x2, nO ([] : List Nod)]⟩ (Wnt ((W_ret (thenS_r ?_))))))))
    cases h
    exact ⟨[0, 1, 2], True, by kernel_rfl, trivial⟩
   ·refine Ww [0, 1] [0, 1] ⟨[(0, sF 0 x1), (1, sF 1 x2)], [nR x1, eR x2]⟩ (W_skip (thenS_n (Wsr ((Ws 1 [0, 1] [1, 19] ⟨[(1, sF 1 x2), (19, sF 0 x1)], [nR x1, eR x2]⟩ (bindO_e h (fun x81 hc82 h => (Wc [.ro 0] rfl rfl rfl Tryz.func105 rfl (slices_Clone_Node_ok x1 x81 hc82) (aI (aI rfl rfl) (trivial)) rfl (Ws 1 [0, 1, 2] [1, 6] ⟨[(1, sF 1 x2), (6, sF 2 x81)], [nR x1, eR x2, nO x81]⟩ (Wnt ((W_seq (Wsr ((Wp 3 [0, 1, 2] [6, 21, 22, 23] T2 ⟨[(6, sF 2 x81), (21, sF 1 x2), (22, I (lI x2)), (23, I 0)], [nR x1, eR x2, nO x81]⟩ t2 (Wnt ((W_block (W_loop (bindO_e h (fun v143 hv143 h => (WL_cut (impl_ApplyEdits_L1_ok w X θ x2 x1 v143 n x81 0 hv143) ?_))))))))))))))))))))))
    rcases v143 with _ | x125
    ·rintro _ _ ⟨rfl, rfl⟩
     refine blockS_r (thenS_r ?_)
     cases h
     exact ⟨[0, 1, 2], True, by kernel_rfl, trivial⟩
    ·rintro _ _ ⟨rfl, rfl⟩
     refine blockS_y (thenS_n (Wsr ((Ws 3 [0, 1, 2] [4, 5] ⟨[(4, sF 2 x125), (5, B true)], [nR x1, eR x2, nO x125]⟩ (Wnt ((W_ret ?_)))))))
     cases h
     exact ⟨[0, 1, 2], True, by kernel_rfl, trivial⟩

/- impl.session).set -/
def impl_session_set (n : Nat) (x1 : List Nod) (k2 : Nat) (x3 : List Lck) (k4 : Nat) (s5 : Str) (s6 : Str) (s7 : Str) : Option (Nat × (List Nod) × Str) :=
 bindO (impl_txnOf s5) fun (i41, b42) =>
 bindO (impl_numberOf s7) fun (i44, b45) =>
 iteO ((!b42) || (!b45))
 (some (k2, x1, [110, 111]))
 (bindO (impl_ResolvePath n ((x1.drop 0).take k2) s6) fun i52 =>
 bindO (iteO (decide (i52 < 0))
 (bindO (impl_upperNode n ((x1.drop 0).take k2) s6) fun i60 =>
 some i60)
 (some i52)) fun i57 =>
 bindO (impl_MayWrite n ((x1.drop 0).take k2) ((x3.drop 0).take k4) i41 i57) fun b62 =>
 iteO (!b62)
 (some (k2, x1, [110, 111]))
 (bindO (impl_ApplyEdits n ((x1.drop 0).take k2) [(⟨0, s6, i44⟩ : Edt)]) fun (x66, b67) =>
 iteO (!b67)
 (some (k2, x1, [110, 111]))
 (some (x66.length, x66, [111, 107]))))

theorem impl_session_set_ok (n : Nat) (x1 : List Nod) (k2 : Nat) (x3 : List Lck) (k4 : Nat) (s5 : Str) (s6 : Str) (s7 : Str) (k38 : Nat) (x39 : List Nod) (s40 : Str) (h : impl_session_set n x1 k2 x3 k4 s5 s6 s7 = some (k38, x39, s40)) : FOk EE 55 [pA 0 0, S s5, S s6, S s7] [.cells [.sl 1 0 k2, .sl 2 0 k4], nO x1, lR x3] (S s40) [.cells [.sl 3 0 k38, .sl 2 0 k4], .dead, lR x3, nO x39] := by
  unfold impl_session_set at h
  refine FOk_of_W 76 3 Tryz.func55 rfl rfl (Nat.le_of_ble_eq_true rfl) rfl (fun w X θ => ?_)
  refine Wsr ((Ws 1 [0, 1, 2] [0, 1, 2, 3] ⟨[(0, pA 0 0), (1, S s5), (2, S s6), (3, S s7)], [.cells [.sl 1 0 k2, .sl 2 0 k4], nO x1, lR x3]⟩ (Wnt ((W_seq (W_region ?_))))))
  refine Ws 1 [0, 1, 2] [0, 2, 3, 17] ⟨[(0, pA 0 0), (2, S s6), (3, S s7), (17, S s5)], [.cells [.sl 1 0 k2, .sl 2 0 k4], nO x1, lR x3]⟩ (bindO_e h (fun v73 hc43 h => ?_))
  obtain ⟨i41, b42⟩ := v73
  refine Wc [] rfl rfl rfl Tryz.func77 rfl (impl_txnOf_ok s5 i41 b42 hc43) (trivial) rfl (Ws 5 [0, 1, 2] [0, 2, 3, 9, 10] ⟨[(0, pA 0 0), (2, S s6), (3, S s7), (9, I i41), (10, B b42)], [.cells [.sl 1 0 k2, .sl 2 0 k4], nO x1, lR x3]⟩ (Wnt ((Wsr ((Ws 1 [0, 1, 2] [0, 2, 9, 10, 22] ⟨[(0, pA 0 0), (2, S s6), (9, I i41), (10, B b42), (22, S s7)], [.cells [.sl 1 0 k2, .sl 2 0 k4], nO x1, lR x3]⟩ ?_))))))
  refine bindO_e h (fun v72 hc46 h => ?_)
  obtain ⟨i44, b45⟩ := v72
  refine Wc [] rfl rfl rfl Tryz.func82 rfl (impl_numberOf_ok s7 i44 b45 hc46) (trivial) rfl (Ws 5 [0, 1, 2] [0, 2, 9, 10, 11, 12] ⟨[(0, pA 0 0), (2, S s6), (9, I i41), (10, B b42), (11, I i44), (12, B b45)], [.cells [.sl 1 0 k2, .sl 2 0 k4], nO x1, lR x3]⟩ (Wnt ((W_seq (W_seq (W_region ?_))))))
  refine Ws 3 [0, 1, 2] [0, 2, 9, 11, 12, 28] ⟨[(0, pA 0 0), (2, S s6), (9, I i41), (11, I i44), (12, B b45), (28, B (!b42))], [.cells [.sl 1 0 k2, .sl 2 0 k4], nO x1, lR x3]⟩ (WO_thru ⟨[(0, pA 0 0), (2, S s6), (9, I i41), (11, I i44), (31, B ((!b42) || (!b45)))], [.cells [.sl 1 0 k2, .sl 2 0 k4], nO x1, lR x3]⟩ ?_ ?_)
  ·refine WO_if 28 rfl (fun hb49 => ?_) (fun hb49 => ?_)
   ·refine Ws 3 [0, 1, 2] [0, 2, 9, 11, 31] ⟨[(0, pA 0 0), (2, S s6), (9, I i41), (11, I i44), (31, B true)], [.cells [.sl 1 0 k2, .sl 2 0 k4], nO x1, lR x3]⟩ ?_
    exact WO_nil rfl ⟨rfl, by first | rfl | (rw [hb49]; first | done | rfl)⟩
   ·refine Ws 3 [0, 1, 2] [0, 2, 9, 11, 31] ⟨[(0, pA 0 0), (2, S s6), (9, I i41), (11, I i44), (31, B (!b45))], [.cells [.sl 1 0 k2, .sl 2 0 k4], nO x1, lR x3]⟩ ?_
    exact WO_nil rfl ⟨rfl, by first | rfl | (rw [hb49]; first | done | rfl)⟩
  ·refine thenS_n (iteO_e h (fun hb51 h => W_true rfl hb51 ?_) (fun hb51 h => W_false rfl hb51 ?_))
   ·refine Wsr ((Ws 1 [0, 1, 2] [8] ⟨[(8, S [110, 111])], [.cells [.sl 1 0 k2, .sl 2 0 k4], nO x1, lR x3]⟩ (Wnt ((W_ret (thenS_r ?_))))))
    cases h
    exact ⟨[0, 999, 2, 1], True, by kernel_rfl, trivial⟩
   ·refine Ww [0, 1, 2] [0, 2, 9, 11] ⟨[(0, pA 0 0), (2, S s6), (9, I i41), (11, I i44)], [.cells [.sl 1 0 k2, .sl 2 0 k4], nO x1, lR x3]⟩ (W_skip (thenS_n (Wsr ((Wp 5 [0, 1, 2] [0, 2, 9, 11, 35, 36] T2 ⟨[(0, pA 0 0), (2, S s6), (9, I i41), (11, I i44), (35, SL 1 0 k2), (36, S s6)], [.cells [.sl 1 0 k2, .sl 2 0 k4], nO x1, lR x3]⟩ t2 (bindO_e h (fun i52 hc53 h => (Wc [.view 0] rfl rfl rfl Tryz.func78 rfl (impl_ResolvePath_ok n ((x1.drop 0).take k2) s6 i52 hc53) (trivial) rfl (Ws 1 [0, 1, 2] [0, 2, 9, 11, 13] ⟨[(0, pA 0 0), (2, S s6), (9, I i41), (11, I i44), (13, I i52)], [.cells [.sl 1 0 k2, .sl 2 0 k4], nO x1, lR x3]⟩ (Wnt ((W_seq (Wsr ((Wp 2 [0, 1, 2] [0, 2, 9, 11, 13, 39] T2 ⟨[(0, pA 0 0), (2, S s6), (9, I i41), (11, I i44), (13, I i52), (39, B (decide (i52 < 0)))], [.cells [.sl 1 0 k2, .sl 2 0 k4], nO x1, lR x3]⟩ t2 (Wnt ((bindO_e h (fun i57 hi57 h => (W_cut (Q' := fun (e : Exit) (s : St) => e = .normal ∧ s = ⟨[(0, pA 0 0), (2, S s6), (9, I i41), (11, I i44), (13, I i57)], [.cells [.sl 1 0 k2, .sl 2 0 k4], nO x1, lR x3]⟩) ?_ ?_))))))))))))))))))))
    ·refine iteO_e hi57 (fun hb59 hi57 => W_true rfl hb59 ?_) (fun hb59 hi57 => W_false rfl hb59 ?_)
     ·refine W_region (Wp 5 [0, 1, 2] [0, 2, 9, 11, 43, 44] T2 ⟨[(0, pA 0 0), (2, S s6), (9, I i41), (11, I i44), (43, SL 1 0 k2), (44, S s6)], [.cells [.sl 1 0 k2, .sl 2 0 k4], nO x1, lR x3]⟩ t2 (bindO_e hi57 (fun i60 hc61 hi57 => (Wc [.view 0] rfl rfl rfl Tryz.func69 rfl (impl_upperNode_ok n ((x1.drop 0).take k2) s6 i60 hc61) (trivial) rfl (Ws 1 [0, 1, 2] [0, 2, 9, 11, 13] ⟨[(0, pA 0 0), (2, S s6), (9, I i41), (11, I i44), (13, I i60)], [.cells [.sl 1 0 k2, .sl 2 0 k4], nO x1, lR x3]⟩ (WO_nil rfl ?_))))))
      cases hi57
      exact aI rfl rfl
     ·refine Ww [0, 1, 2] [0, 2, 9, 11, 13] ⟨[(0, pA 0 0), (2, S s6), (9, I i41), (11, I i44), (13, I i52)], [.cells [.sl 1 0 k2, .sl 2 0 k4], nO x1, lR x3]⟩ (W_skip ?_)
      cases hi57
      exact aI rfl rfl
    ·rintro _ _ ⟨rfl, rfl⟩
     refine thenS_n (W_seq (W_seq (bindO_e h (fun b62 hc63 h => (W_cut (Q' := fun (e : Exit) (s : St) => e = .normal ∧ s = ⟨[(0, pA 0 0), (2, S s6), (11, I i44), (57, B (!b62))], [.cells [.sl 1 0 k2, .sl 2 0 k4], nO x1, lR x3]⟩) ?_ ?_)))))
     ·refine W_draw [] false (by kernel_rfl) (by kernel_rfl) (WD_takeQ [0, 1, 2, 4, 5, 6, 8, 9] [0, 2, 11, 48, 52, 54, 55] [0, 2, 11, 48, 52, 54, 55] (φ := True) (ls' := (tf true [3, 1, 3, 1, 2, 2])) (st' := ⟨[(0, pA 0 0), (2, S s6), (11, I i44), (48, pA 0 0), (52, pA 0 1), (54, I i41), (55, I i57)], [.cells [.sl 1 0 k2, .sl 2 0 k4], nO x1, lR x3]⟩) (n2 := 4) (by kernel_rfl) trivial rfl (WD_all [3, 7] (n := 3) (by kernel_rfl) rfl (aI ?_ (?_))))
      ·refine WM_op (φ := True) (v := SL 1 0 k2) (H' := [.cells [.sl 1 0 k2, .sl 2 0 k4], nO x1, lR x3]) rfl rfl (by kernel_rfl) trivial rfl (aI (aI rfl rfl) (aI rfl (aI rfl (trivial)))) (WD_all [7] (n := 2) (by kernel_rfl) rfl (WM_op (φ := True) (v := SL 2 0 k4) (H' := [.cells [.sl 1 0 k2, .sl 2 0 k4], nO x1, lR x3]) rfl rfl (by kernel_rfl) trivial rfl (aI (aI rfl rfl) (aI rfl (aI rfl (trivial)))) (WD_all [10] (n := 1) (by kernel_rfl) rfl (WM_call [.view 0, .view 1] Tryz.f83 rfl rfl (by kernel_rfl) Tryz.func83 rfl (by kernel_rfl) (impl_MayWrite_ok n ((x1.drop 0).take k2) ((x3.drop 0).take k4) i41 i57 b62 hc63) (trivial) rfl (aI (aI rfl rfl) (aI rfl (aI rfl (trivial)))) (WD_takeQ [11] [0, 2, 11, 57] [0, 2, 11, 57] (φ := True) (ls' := (tf true [12])) (st' := ⟨[(0, pA 0 0), (2, S s6), (11, I i44), (57, B (!b62))], [.cells [.sl 1 0 k2, .sl 2 0 k4], nO x1, lR x3]⟩) (n2 := 0) (by kernel_rfl) trivial rfl ?_)))))
       exact WD_done [0, 1, 2] [0, 2, 11, 57] (st' := ⟨[(0, pA 0 0), (2, S s6), (11, I i44), (57, B (!b62))], [.cells [.sl 1 0 k2, .sl 2 0 k4], nO x1, lR x3]⟩) (by kernel_rfl) (by kernel_rfl) (aI rfl rfl)
      ·refine WM_op (φ := True) (v := SL 2 0 k4) (H' := [.cells [.sl 1 0 k2, .sl 2 0 k4], nO x1, lR x3]) rfl rfl (by kernel_rfl) trivial rfl (aI (aI rfl rfl) (aI rfl (aI rfl (trivial)))) (WD_all [3] (n := 2) (by kernel_rfl) rfl (WM_op (φ := True) (v := SL 1 0 k2) (H' := [.cells [.sl 1 0 k2, .sl 2 0 k4], nO x1, lR x3]) rfl rfl (by kernel_rfl) trivial rfl (aI (aI rfl rfl) (aI rfl (aI rfl (trivial)))) (WD_all [10] (n := 1) (by kernel_rfl) rfl (WM_call [.view 0, .view 1] Tryz.f83 rfl rfl (by kernel_rfl) Tryz.func83 rfl (by kernel_rfl) (impl_MayWrite_ok n ((x1.drop 0).take k2) ((x3.drop 0).take k4) i41 i57 b62 hc63) (trivial) rfl (aI (aI rfl rfl) (aI rfl (aI rfl (trivial)))) (WD_takeQ [11] [0, 2, 11, 57] [0, 2, 11, 57] (φ := True) (ls' := (tf true [12])) (st' := ⟨[(0, pA 0 0), (2, S s6), (11, I i44), (57, B (!b62))], [.cells [.sl 1 0 k2, .sl 2 0 k4], nO x1, lR x3]⟩) (n2 := 0) (by kernel_rfl) trivial rfl ?_)))))
       exact WD_done [0, 1, 2] [0, 2, 11, 57] (st' := ⟨[(0, pA 0 0), (2, S s6), (11, I i44), (57, B (!b62))], [.cells [.sl 1 0 k2, .sl 2 0 k4], nO x1, lR x3]⟩) (by kernel_rfl) (by kernel_rfl) (aI rfl rfl)
     ·rintro _ _ ⟨rfl, rfl⟩
      refine thenS_n (iteO_e h (fun hb65 h => W_true rfl hb65 ?_) (fun hb65 h => W_false rfl hb65 ?_))
      ·refine Wsr ((Ws 1 [0, 1, 2] [8] ⟨[(8, S [110, 111])], [.cells [.sl 1 0 k2, .sl 2 0 k4], nO x1, lR x3]⟩ (Wnt ((W_ret (thenS_r ?_))))))
       cases h
       exact ⟨[0, 999, 2, 1], True, by kernel_rfl, trivial⟩
      ·refine Ww [0, 1, 2] [0, 2, 11] ⟨[(0, pA 0 0), (2, S s6), (11, I i44)], [.cells [.sl 1 0 k2, .sl 2 0 k4], nO x1, lR x3]⟩ (W_skip (thenS_n (Wsr ((Wp 8 [0, 1, 2, 3] [0, 62, 66] T2 ⟨[(0, pA 0 0), (62, SL 1 0 k2), (66, .one (.e (.sl 3 0 ([(⟨0, s6, i44⟩ : Edt)].length))))], [.cells [.sl 1 0 k2, .sl 2 0 k4], nO x1, lR x3, .row .edt [(⟨0, s6, i44⟩ : Edt)] true]⟩ t2 (bindO_e h (fun v71 hc68 h => ?_)))))))
       obtain ⟨x66, b67⟩ := v71
       refine Wc [.view 0, .ro 3] rfl rfl rfl Tryz.func84 rfl (impl_ApplyEdits_ok n ((x1.drop 0).take k2) [(⟨0, s6, i44⟩ : Edt)] x66 b67 hc68) (aI (aI rfl rfl) (trivial)) rfl (Ws 5 [0, 1, 2, 4] [0, 14, 15] ⟨[(0, pA 0 0), (14, sF 3 x66), (15, B b67)], [.cells [.sl 1 0 k2, .sl 2 0 k4], nO x1, lR x3, nO x66]⟩ (Wnt ((W_seq (Wsr ((Ws 2 [0, 1, 2, 3] [0, 14, 71] ⟨[(0, pA 0 0), (14, sF 3 x66), (71, B (!b67))], [.cells [.sl 1 0 k2, .sl 2 0 k4], nO x1, lR x3, nO x66]⟩ (Wnt ((iteO_e h (fun hb70 h => W_true rfl hb70 ?_) (fun hb70 h => W_false rfl hb70 ?_)))))))))))
       ·refine Wsr ((Ws 1 [0, 1, 2] [8] ⟨[(8, S [110, 111])], [.cells [.sl 1 0 k2, .sl 2 0 k4], nO x1, lR x3]⟩ (Wnt ((W_ret (thenS_r ?_))))))
        cases h
        exact ⟨[0, 999, 2, 1], True, by kernel_rfl, trivial⟩
       ·refine Ww [0, 1, 2, 3] [0, 14] ⟨[(0, pA 0 0), (14, sF 3 x66)], [.cells [.sl 1 0 k2, .sl 2 0 k4], nO x1, lR x3, nO x66]⟩ (W_skip (thenS_n (Wsr ((Wp 5 [0, 1, 2, 3] [] T2 ⟨[], [.cells [.sl 3 0 x66.length, .sl 2 0 k4], nO x1, lR x3, nO x66]⟩ t2 (Wnt ((Wsr ((Ws 1 [0, 1, 2, 3] [8] ⟨[(8, S [111, 107])], [.cells [.sl 3 0 x66.length, .sl 2 0 k4], nO x1, lR x3, nO x66]⟩ (Wnt ((W_ret ?_)))))))))))))
        cases h
        exact ⟨[0, 999, 2, 3], True, by kernel_rfl, trivial⟩

/- impl.FreeLocks -/
def impl_FreeLocks_L1 (i2 : Int) (x1 : List Lck) : Nat → (List Lck) → Int → Option ((List Lck))
| 0, _, _ => none
| n + 1, x78, i79 =>
 iteO (decide (i79 < ((x1.length : Nat) : Int)))
 (guardO (0 ≤ i79 ∧ i79 < ((x1.length : Nat) : Int)) <|
 bindO (iteO (!decide (((x1.getD i79.toNat dlck).who) = i2))
 (guardO (0 = 0 ∧ x78.length = x78.length ∧ x78.length + (([(⟨(x1.getD i79.toNat dlck).who, (x1.getD i79.toNat dlck).node, (x1.getD i79.toNat dlck).mode⟩ : Lck)].drop 0).take ([(⟨(x1.getD i79.toNat dlck).who, (x1.getD i79.toNat dlck).node, (x1.getD i79.toNat dlck).mode⟩ : Lck)].length)).length ≤ 1099511627776) <|
 some (x78 ++ (([(⟨(x1.getD i79.toNat dlck).who, (x1.getD i79.toNat dlck).node, (x1.getD i79.toNat dlck).mode⟩ : Lck)].drop 0).take ([(⟨(x1.getD i79.toNat dlck).who, (x1.getD i79.toNat dlck).node, (x1.getD i79.toNat dlck).mode⟩ : Lck)].length))))
 (some x78)) fun x106 =>
 impl_FreeLocks_L1 i2 x1 n x106 (w64 (i79 + 1)))
 (some x78)

theorem impl_FreeLocks_L1_ok (w : World) (X : Nat → Prop) (θ : List Loc) (i2 : Int) (x1 : List Lck) (x94 : (List Lck)) : ∀ (n : Nat) (x78 : List Lck) (i79 : Int), impl_FreeLocks_L1 i2 x1 n x78 i79 = some x94 → WL EE ⟨w, X, θ, 27, 1⟩ (subC [1, 1, 1, 0, 1, 4, 4] (bodyC Tryz.f85)) (fun (e : Exit) (s : St) => e = .exit 0 ∧ s = ⟨[(5, sF 1 x94)], [lR x1, lO x94]⟩) ⟨[(1, I i2), (5, sF 1 x78), (11, sF 0 x1), (12, I ((x1.length : Nat) : Int)), (13, I i79)], [lR x1, lO x78]⟩ := by
  intro n
  induction n with
  | zero => intro _ _ h; exact none_e h
  | succ n ih =>
    intro x78 i79 h
    rw [impl_FreeLocks_L1] at h
    refine WL_round ?_
    refine Wsr ((Wp 1 [0, 1] [1, 5, 11, 12, 13, 14] T2 ⟨[(1, I i2), (5, sF 1 x78), (11, sF 0 x1), (12, I (lI x1)), (13, I i79), (14, B (decide (i79 < (lI x1))))], [lR x1, lO x78]⟩ t2 (Wnt ((W_seq (iteO_e h (fun hb97 h => W_true rfl hb97 ?_) (fun hb97 h => W_false rfl hb97 ?_)))))))
    ·refine Ww [0, 1] [1, 5, 11, 12, 13] ⟨[(1, I i2), (5, sF 1 x78), (11, sF 0 x1), (12, I (lI x1)), (13, I i79)], [lR x1, lO x78]⟩ (W_skip (thenS_n (W_seq (W_block (Wsr ((guardO_e h (fun hg103 h => (Wp 4 [0, 1, 2] [1, 5, 7, 11, 12, 13] ((0 ≤ i79 ∧ i79 < (lI x1)) ∧ T4) ⟨[(1, I i2), (5, sF 1 x78), (7, pA 2 0), (11, sF 0 x1), (12, I (lI x1)), (13, I i79)], [lR x1, lO x78, .cells [cI ((x1.getD i79.toNat dlck).who), cI ((x1.getD i79.toNat dlck).node), cI ((x1.getD i79.toNat dlck).mode)]]⟩ ⟨hg103, trivial, trivial, trivial, trivial⟩ (Wnt ((Wsr ((Wp 4 [0, 1, 2] [1, 5, 7, 11, 12, 13, 20] T3 ⟨[(1, I i2), (5, sF 1 x78), (7, pA 2 0), (11, sF 0 x1), (12, I (lI x1)), (13, I i79), (20, B (!decide (((x1.getD i79.toNat dlck).who) = i2)))], [lR x1, lO x78, .cells [cI ((x1.getD i79.toNat dlck).who), cI ((x1.getD i79.toNat dlck).node), cI ((x1.getD i79.toNat dlck).mode)]]⟩ t3 (Wnt ((bindO_e h (fun x106 hx106 h => (W_cut (Q' := fun (e : Exit) (s : St) => e = .normal ∧ s = ⟨[(1, I i2), (5, sF 1 x106), (11, sF 0 x1), (12, I (lI x1)), (13, I i79)], [lR x1, lO x106]⟩) ?_ ?_)))))))))))))))))))
     ·refine iteO_e hx106 (fun hb108 hx106 => W_true rfl hb108 ?_) (fun hb108 hx106 => W_false rfl hb108 ?_)
      ·refine W_region (guardO_e hx106 (fun hg109 hx106 => (Wp 5 [0, 4] [1, 5, 11, 12, 13] (True ∧ ((0 = 0 ∧ x78.length = x78.length ∧ x78.length + (([(⟨(x1.getD i79.toNat dlck).who, (x1.getD i79.toNat dlck).node, (x1.getD i79.toNat dlck).mode⟩ : Lck)].drop 0).take ([(⟨(x1.getD i79.toNat dlck).who, (x1.getD i79.toNat dlck).node, (x1.getD i79.toNat dlck).mode⟩ : Lck)].length)).length ≤ 1099511627776) ∧ True)) ⟨[(1, I i2), (5, .one (.e (.sl 1 0 ((x78 ++ (([(⟨(x1.getD i79.toNat dlck).who, (x1.getD i79.toNat dlck).node, (x1.getD i79.toNat dlck).mode⟩ : Lck)].drop 0).take ([(⟨(x1.getD i79.toNat dlck).who, (x1.getD i79.toNat dlck).node, (x1.getD i79.toNat dlck).mode⟩ : Lck)].length))).length)))), (11, sF 0 x1), (12, I (lI x1)), (13, I i79)], [lR x1, .row .lck (x78 ++ (([(⟨(x1.getD i79.toNat dlck).who, (x1.getD i79.toNat dlck).node, (x1.getD i79.toNat dlck).mode⟩ : Lck)].drop 0).take ([(⟨(x1.getD i79.toNat dlck).who, (x1.getD i79.toNat dlck).node, (x1.getD i79.toNat dlck).mode⟩ : Lck)].length))) true]⟩ ⟨trivial, hg109, trivial⟩ (WO_nil rfl ?_))))
       cases hx106
       exact aI rfl rfl
      ·refine Ww [0, 1] [1, 5, 11, 12, 13] ⟨[(1, I i2), (5, sF 1 x78), (11, sF 0 x1), (12, I (lI x1)), (13, I i79)], [lR x1, lO x78]⟩ (W_skip ?_)
       cases hx106
       exact aI rfl rfl
     ·rintro _ _ ⟨rfl, rfl⟩
      refine blockS_n (thenS_n (W_region (Wp 2 [0, 1] [1, 5, 11, 12, 13] T2 ⟨[(1, I i2), (5, sF 1 x106), (11, sF 0 x1), (12, I (lI x1)), (13, I (w64 (i79 + 1)))], [lR x1, lO x106]⟩ t2 (Wnt (?_)))))
      exact ih _ _ h
    ·refine Ww [0, 1] [5] ⟨[(5, sF 1 x78)], [lR x1, lO x78]⟩ (W_exit (thenS_e (thenS_e ?_)))
     cases h
     exact aI rfl rfl

def impl_FreeLocks (n : Nat) (x1 : List Lck) (i2 : Int) : Option ((List Lck)) :=
 bindO (impl_ValidTable n x1) fun b56 =>
 iteO (!b56)
 (some ([] : List Lck))
 (bindO (impl_FreeLocks_L1 i2 x1 n ([] : List Lck) 0) fun x94 =>
 some x94)

theorem impl_FreeLocks_ok (n : Nat) (x1 : List Lck) (i2 : Int) (x55 : List Lck) (h : impl_FreeLocks n x1 i2 = some x55) : FOk EE 85 [sF 0 x1, I i2] [lR x1] (sF 1 x55) [lR x1, lO x55] := by
  unfold impl_FreeLocks at h
  refine FOk_of_W 27 1 Tryz.func85 rfl rfl (Nat.le_of_ble_eq_true rfl) rfl (fun w X θ => ?_)
  refine Wsr ((Ws 1 [0] [0, 1] ⟨[(0, sF 0 x1), (1, I i2)], [lR x1]⟩ (Wnt ((W_seq (W_seq ?_))))))
  refine W_region (Ws 1 [0] [0, 1, 8] ⟨[(0, sF 0 x1), (1, I i2), (8, sF 0 x1)], [lR x1]⟩ (bindO_e h (fun b56 hc57 h => (Wc [.ro 0] rfl rfl rfl Tryz.func86 rfl (impl_ValidTable_ok n x1 b56 hc57) (aI (aI rfl rfl) (trivial)) rfl (Ws 1 [0] [0, 1, 10] ⟨[(0, sF 0 x1), (1, I i2), (10, B (!b56))], [lR x1]⟩ (Wnt (?_)))))))
  refine iteO_e h (fun hb59 h => W_true rfl hb59 ?_) (fun hb59 h => W_false rfl hb59 ?_)
  ·refine Wsr ((Ws 1 [0] [4] ⟨[(4, .one (.e (.nsl)))], [lR x1]⟩ (WO_nilrow 4 .lck rfl (Wb [0, 1] [4] ⟨[(4, .one (.e (.sl 1 0 (([] : List Lck).length))))], [lR x1, lO ([] : List Lck)]⟩ (Wnt ((W_ret (thenS_r ?_))))))))
   cases h
   exact ⟨[0, 1], True, by kernel_rfl, trivial⟩
  ·refine Ww [0] [0, 1] ⟨[(0, sF 0 x1), (1, I i2)], [lR x1]⟩ (W_skip (thenS_n (Wsr ((Ws 1 [0] [0, 1, 5] ⟨[(0, sF 0 x1), (1, I i2), (5, .one (.e (.nsl)))], [lR x1]⟩ (WO_nilrow 5 .lck rfl (Wb [0, 1] [0, 1, 5] ⟨[(0, sF 0 x1), (1, I i2), (5, .one (.e (.sl 1 0 (([] : List Lck).length))))], [lR x1, lO ([] : List Lck)]⟩ (Wnt ((W_seq (Wsr ((Wp 3 [0, 1] [1, 5, 11, 12, 13] T2 ⟨[(1, I i2), (5, .one (.e (.sl 1 0 (([] : List Lck).length)))), (11, sF 0 x1), (12, I (lI x1)), (13, I 0)], [lR x1, lO ([] : List Lck)]⟩ t2 (Wnt ((W_block (W_loop (bindO_e h (fun x94 hx94 h => (WL_cut (impl_FreeLocks_L1_ok w X θ i2 x1 x94 n ([] : List Lck) 0 hx94) ?_))))))))))))))))))))
   rintro _ _ ⟨rfl, rfl⟩
   refine blockS_y (thenS_n (Wsr ((Ws 2 [0, 1] [4] ⟨[(4, sF 1 x94)], [lR x1, lO x94]⟩ (Wnt ((W_ret ?_)))))))
   cases h
   exact ⟨[0, 1], True, by kernel_rfl, trivial⟩

/- impl.session).free -/
def impl_session_free (n : Nat) (x1 : List Nod) (k2 : Nat) (x3 : List Lck) (k4 : Nat) (s5 : Str) : Option (Nat × (List Lck) × Str) :=
 bindO (impl_txnOf s5) fun (i17, b18) =>
 iteO (!b18)
 (some (k4, x3, [110, 111]))
 (bindO (impl_FreeLocks n ((x3.drop 0).take k4) i17) fun x22 =>
 some (x22.length, x22, [111, 107]))

theorem impl_session_free_ok (n : Nat) (x1 : List Nod) (k2 : Nat) (x3 : List Lck) (k4 : Nat) (s5 : Str) (k14 : Nat) (x15 : List Lck) (s16 : Str) (h : impl_session_free n x1 k2 x3 k4 s5 = some (k14, x15, s16)) : FOk EE 56 [pA 0 0, S s5] [.cells [.sl 1 0 k2, .sl 2 0 k4], nR x1, lO x3] (S s16) [.cells [.sl 1 0 k2, .sl 3 0 k14], nR x1, .dead, lO x15] := by
  unfold impl_session_free at h
  refine FOk_of_W 23 3 Tryz.func56 rfl rfl (Nat.le_of_ble_eq_true rfl) rfl (fun w X θ => ?_)
  refine Wsr ((Ws 1 [0, 1, 2] [0, 1] ⟨[(0, pA 0 0), (1, S s5)], [.cells [.sl 1 0 k2, .sl 2 0 k4], nR x1, lO x3]⟩ (Wnt ((W_seq (W_region ?_))))))
  refine Ws 1 [0, 1, 2] [0, 8] ⟨[(0, pA 0 0), (8, S s5)], [.cells [.sl 1 0 k2, .sl 2 0 k4], nR x1, lO x3]⟩ (bindO_e h (fun v24 hc19 h => ?_))
  obtain ⟨i17, b18⟩ := v24
  refine Wc [] rfl rfl rfl Tryz.func77 rfl (impl_txnOf_ok s5 i17 b18 hc19) (trivial) rfl (Ws 5 [0, 1, 2] [0, 5, 6] ⟨[(0, pA 0 0), (5, I i17), (6, B b18)], [.cells [.sl 1 0 k2, .sl 2 0 k4], nR x1, lO x3]⟩ (Wnt ((W_seq (W_seq (W_region ?_))))))
  refine Ws 2 [0, 1, 2] [0, 5, 13] ⟨[(0, pA 0 0), (5, I i17), (13, B (!b18))], [.cells [.sl 1 0 k2, .sl 2 0 k4], nR x1, lO x3]⟩ (Wnt ((iteO_e h (fun hb21 h => W_true rfl hb21 ?_) (fun hb21 h => W_false rfl hb21 ?_))))
  ·refine Wsr ((Ws 1 [0, 1, 2] [4] ⟨[(4, S [110, 111])], [.cells [.sl 1 0 k2, .sl 2 0 k4], nR x1, lO x3]⟩ (Wnt ((W_ret (thenS_r ?_))))))
   cases h
   exact ⟨[0, 1, 999, 2], True, by kernel_rfl, trivial⟩
  ·refine Ww [0, 1, 2] [0, 5] ⟨[(0, pA 0 0), (5, I i17)], [.cells [.sl 1 0 k2, .sl 2 0 k4], nR x1, lO x3]⟩ (W_skip (thenS_n (Wsr ((Wp 6 [0, 1, 2] [14, 18, 19] T2 ⟨[(14, pA 0 0), (18, SL 2 0 k4), (19, I i17)], [.cells [.sl 1 0 k2, .sl 2 0 k4], nR x1, lO x3]⟩ t2 (bindO_e h (fun x22 hc23 h => (Wc [.view 0] rfl rfl rfl Tryz.func85 rfl (impl_FreeLocks_ok n ((x3.drop 0).take k4) i17 x22 hc23) (trivial) rfl (Wp 3 [0, 1, 2, 3] [] T2 ⟨[], [.cells [.sl 1 0 k2, .sl 3 0 x22.length], nR x1, lO x3, lO x22]⟩ t2 (Wnt ((Wsr ((Ws 1 [0, 1, 2, 3] [4] ⟨[(4, S [111, 107])], [.cells [.sl 1 0 k2, .sl 3 0 x22.length], nR x1, lO x3, lO x22]⟩ (Wnt ((W_ret ?_)))))))))))))))))
   cases h
   exact ⟨[0, 1, 999, 3], True, by kernel_rfl, trivial⟩

/- impl.FormatTree -/
def impl_FormatTree_L1 (x1 : List Nod) : Nat → (List Int) → Int → Option ((List Int))
| 0, _, _ => none
| n + 1, x217, i218 =>
 iteO (decide (i218 < ((x1.length : Nat) : Int)))
 (guardO (0 ≤ i218 ∧ i218 < ((x1.length : Nat) : Int)) <|
 bindO (iteO (decide (0 < i218))
 (bindO (strings_Builder_WriteString x217 [59, 32]) fun (x302, i303) =>
 some x302)
 (some x217)) fun x299 =>
 bindO (impl_PathText n x1 i218) fun s306 =>
 bindO (strings_Builder_WriteString x299 s306) fun (x308, i309) =>
 bindO (strings_Builder_WriteByte x308 32) fun x311 =>
 bindO (strconv_Itoa ((x1.getD i218.toNat dnod).value)) fun s313 =>
 bindO (strings_Builder_WriteString x311 s313) fun (x315, i316) =>
 impl_FormatTree_L1 x1 n x315 (w64 (i218 + 1)))
 (some x217)

theorem impl_FormatTree_L1_ok (w : World) (X : Nat → Prop) (θ : List Loc) (x1 : List Nod) (x267 : (List Int)) : ∀ (n : Nat) (x217 : List Int) (i218 : Int), impl_FormatTree_L1 x1 n x217 i218 = some x267 → WL EE ⟨w, X, θ, 30, 1⟩ (subC [1, 1, 1, 0, 1, 4, 4] (bodyC Tryz.f17)) (fun (e : Exit) (s : St) => e = .exit 0 ∧ s = ⟨[(3, pA 1 0)], [nR x1, .cells [.sp 1 53, .bsl 2 x267.length], uO x267]⟩) ⟨[(0, sF 0 x1), (3, pA 1 0), (9, sF 0 x1), (10, I ((x1.length : Nat) : Int)), (11, I i218)], [nR x1, .cells [.sp 1 53, .bsl 2 x217.length], uO x217]⟩ := by
  intro n
  induction n with
  | zero => intro _ _ h; exact none_e h
  | succ n ih =>
    intro x217 i218 h
    rw [impl_FormatTree_L1] at h
    refine WL_round ?_
    refine Wsr ((Wp 1 [0, 1, 2] [0, 3, 9, 10, 11, 12] T2 ⟨[(0, sF 0 x1), (3, pA 1 0), (9, sF 0 x1), (10, I (lI x1)), (11, I i218), (12, B (decide (i218 < (lI x1))))], [nR x1, .cells [.sp 1 53, .bsl 2 x217.length], uO x217]⟩ t2 (Wnt ((W_seq (iteO_e h (fun hb270 h => W_true rfl hb270 ?_) (fun hb270 h => W_false rfl hb270 ?_)))))))
    ·refine Ww [0, 1, 2] [0, 3, 9, 10, 11] ⟨[(0, sF 0 x1), (3, pA 1 0), (9, sF 0 x1), (10, I (lI x1)), (11, I i218)], [nR x1, .cells [.sp 1 53, .bsl 2 x217.length], uO x217]⟩ (W_skip (thenS_n (W_seq (W_block (Wsr ((guardO_e h (fun hg293 h => (Wp 6 [0, 1, 3, 2] [0, 3, 4, 5, 9, 10, 11] ((0 ≤ i218 ∧ i218 < (lI x1)) ∧ T4) ⟨[(0, sF 0 x1), (3, pA 1 0), (4, I i218), (5, pA 2 0), (9, sF 0 x1), (10, I (lI x1)), (11, I i218)], [nR x1, .cells [.sp 1 53, .bsl 3 x217.length], .cells [cI ((x1.getD i218.toNat dnod).parent), cS ((x1.getD i218.toNat dnod).name), cI ((x1.getD i218.toNat dnod).value)], uO x217]⟩ ⟨hg293, trivial, trivial, trivial, trivial⟩ (Wnt ((W_seq (Wsr ((Wp 2 [0, 1, 2, 3] [0, 3, 4, 5, 9, 10, 11, 17] T2 ⟨[(0, sF 0 x1), (3, pA 1 0), (4, I i218), (5, pA 2 0), (9, sF 0 x1), (10, I (lI x1)), (11, I i218), (17, B (decide (0 < i218)))], [nR x1, .cells [.sp 1 53, .bsl 3 x217.length], .cells [cI ((x1.getD i218.toNat dnod).parent), cS ((x1.getD i218.toNat dnod).name), cI ((x1.getD i218.toNat dnod).value)], uO x217]⟩ t2 (Wnt ((bindO_e h (fun x299 hx299 h => (W_cut (Q' := fun (e : Exit) (s : St) => e = .normal ∧ s = ⟨[(0, sF 0 x1), (3, pA 1 0), (4, I i218), (5, pA 2 0), (9, sF 0 x1), (10, I (lI x1)), (11, I i218)], [nR x1, .cells [.sp 1 53, .bsl 3 x299.length], .cells [cI ((x1.getD i218.toNat dnod).parent), cS ((x1.getD i218.toNat dnod).name), cI ((x1.getD i218.toNat dnod).value)], uO x299]⟩) ?_ ?_))))))))))))))))))))
     ·refine iteO_e hx299 (fun hb301 hx299 => W_true rfl hb301 ?_) (fun hb301 hx299 => W_false rfl hb301 ?_)
      ·refine W_region (Wb [0, 1, 2, 3] [0, 3, 4, 5, 9, 10, 11] ⟨[(0, sF 0 x1), (3, pA 1 0), (4, I i218), (5, pA 2 0), (9, sF 0 x1), (10, I (lI x1)), (11, I i218)], [nR x1, .cells [.sp 1 53, .bsl 3 x217.length], .cells [cI ((x1.getD i218.toNat dnod).parent), cS ((x1.getD i218.toNat dnod).name), cI ((x1.getD i218.toNat dnod).value)], uO x217]⟩ (bindO_e hx299 (fun v305 hc304 hx299 => ?_)))
       obtain ⟨x302, i303⟩ := v305
       refine Wc [.own 1, .own 3] rfl rfl rfl Tryz.func29 rfl (strings_Builder_WriteString_ok x217 [59, 32] x302 i303 hc304) (aI (trivial) (aI (trivial) (trivial))) rfl (Wb [0, 1, 2, 4] [0, 3, 4, 5, 9, 10, 11] ⟨[(0, sF 0 x1), (3, pA 1 0), (4, I i218), (5, pA 2 0), (9, sF 0 x1), (10, I (lI x1)), (11, I i218)], [nR x1, .cells [.sp 1 53, .bsl 3 x302.length], .cells [cI ((x1.getD i218.toNat dnod).parent), cS ((x1.getD i218.toNat dnod).name), cI ((x1.getD i218.toNat dnod).value)], uO x302]⟩ (WO_nil rfl ?_))
       cases hx299
       exact aI rfl rfl
      ·refine Ww [0, 1, 2, 3] [0, 3, 4, 5, 9, 10, 11] ⟨[(0, sF 0 x1), (3, pA 1 0), (4, I i218), (5, pA 2 0), (9, sF 0 x1), (10, I (lI x1)), (11, I i218)], [nR x1, .cells [.sp 1 53, .bsl 3 x217.length], .cells [cI ((x1.getD i218.toNat dnod).parent), cS ((x1.getD i218.toNat dnod).name), cI ((x1.getD i218.toNat dnod).value)], uO x217]⟩ (W_skip ?_)
       cases hx299
       exact aI rfl rfl
     ·rintro _ _ ⟨rfl, rfl⟩
      refine thenS_n (Wsr ((Ws 2 [0, 1, 2, 3] [0, 3, 5, 9, 10, 11, 19, 20] ⟨[(0, sF 0 x1), (3, pA 1 0), (5, pA 2 0), (9, sF 0 x1), (10, I (lI x1)), (11, I i218), (19, sF 0 x1), (20, I i218)], [nR x1, .cells [.sp 1 53, .bsl 3 x299.length], .cells [cI ((x1.getD i218.toNat dnod).parent), cS ((x1.getD i218.toNat dnod).name), cI ((x1.getD i218.toNat dnod).value)], uO x299]⟩ (bindO_e h (fun s306 hc307 h => (Wc [.ro 0] rfl rfl rfl Tryz.func47 rfl (impl_PathText_ok n x1 i218 s306 hc307) (aI (aI rfl rfl) (trivial)) rfl (Wb [0, 1, 2, 3] [0, 3, 5, 9, 10, 11, 21] ⟨[(0, sF 0 x1), (3, pA 1 0), (5, pA 2 0), (9, sF 0 x1), (10, I (lI x1)), (11, I i218), (21, S s306)], [nR x1, .cells [.sp 1 53, .bsl 3 x299.length], .cells [cI ((x1.getD i218.toNat dnod).parent), cS ((x1.getD i218.toNat dnod).name), cI ((x1.getD i218.toNat dnod).value)], uO x299]⟩ (bindO_e h (fun v319 hc310 h => ?_)))))))))
      obtain ⟨x308, i309⟩ := v319
      refine Wc [.own 1, .own 3] rfl rfl rfl Tryz.func29 rfl (strings_Builder_WriteString_ok x299 s306 x308 i309 hc310) (aI (trivial) (aI (trivial) (trivial))) rfl (Wb [0, 1, 2, 4] [0, 3, 5, 9, 10, 11] ⟨[(0, sF 0 x1), (3, pA 1 0), (5, pA 2 0), (9, sF 0 x1), (10, I (lI x1)), (11, I i218)], [nR x1, .cells [.sp 1 53, .bsl 3 x308.length], .cells [cI ((x1.getD i218.toNat dnod).parent), cS ((x1.getD i218.toNat dnod).name), cI ((x1.getD i218.toNat dnod).value)], uO x308]⟩ (Wnt ((Wsr ((bindO_e h (fun x311 hc312 h => (Wc [.own 1, .own 3] rfl rfl rfl Tryz.func32 rfl (strings_Builder_WriteByte_ok x308 32 x311 hc312) (aI (trivial) (aI (trivial) (trivial))) rfl (Wb [0, 1, 2, 4] [0, 3, 5, 9, 10, 11] ⟨[(0, sF 0 x1), (3, pA 1 0), (5, pA 2 0), (9, sF 0 x1), (10, I (lI x1)), (11, I i218)], [nR x1, .cells [.sp 1 53, .bsl 3 x311.length], .cells [cI ((x1.getD i218.toNat dnod).parent), cS ((x1.getD i218.toNat dnod).name), cI ((x1.getD i218.toNat dnod).value)], uO x311]⟩ (Wnt ((W_region (Wp 2 [0, 1, 3] [0, 3, 9, 10, 11, 25] T2 ⟨[(0, sF 0 x1), (3, pA 1 0), (9, sF 0 x1), (10, I (lI x1)), (11, I i218), (25, I ((x1.getD i218.toNat dnod).value))], [nR x1, .cells [.sp 1 53, .bsl 2 x311.length], uO x311]⟩ t2 (bindO_e h (fun s313 hc314 h => (Wc [] rfl rfl rfl Tryz.func48 rfl (strconv_Itoa_ok ((x1.getD i218.toNat dnod).value) s313 hc314) (trivial) rfl (Wb [0, 1, 2] [0, 3, 9, 10, 11, 26] ⟨[(0, sF 0 x1), (3, pA 1 0), (9, sF 0 x1), (10, I (lI x1)), (11, I i218), (26, S s313)], [nR x1, .cells [.sp 1 53, .bsl 2 x311.length], uO x311]⟩ (bindO_e h (fun v318 hc317 h => ?_)))))))))))))))))))
      obtain ⟨x315, i316⟩ := v318
      refine Wc [.own 1, .own 2] rfl rfl rfl Tryz.func29 rfl (strings_Builder_WriteString_ok x311 s313 x315 i316 hc317) (aI (trivial) (aI (trivial) (trivial))) rfl (Wb [0, 1, 3] [0, 3, 9, 10, 11] ⟨[(0, sF 0 x1), (3, pA 1 0), (9, sF 0 x1), (10, I (lI x1)), (11, I i218)], [nR x1, .cells [.sp 1 53, .bsl 2 x315.length], uO x315]⟩ (WO_nil rfl (blockS_n (thenS_n (W_region (Wp 2 [0, 1, 2] [0, 3, 9, 10, 11] T2 ⟨[(0, sF 0 x1), (3, pA 1 0), (9, sF 0 x1), (10, I (lI x1)), (11, I (w64 (i218 + 1)))], [nR x1, .cells [.sp 1 53, .bsl 2 x315.length], uO x315]⟩ t2 (Wnt (?_))))))))
      exact ih _ _ h
    ·refine Ww [0, 1, 2] [3] ⟨[(3, pA 1 0)], [nR x1, .cells [.sp 1 53, .bsl 2 x217.length], uO x217]⟩ (W_exit (thenS_e (thenS_e ?_)))
     cases h
     exact aI rfl rfl

def impl_FormatTree (n : Nat) (x1 : List Nod) : Option (Str) :=
 bindO (impl_ValidTree n x1) fun b161 =>
 iteO (!b161)
 (some [])
 (bindO (impl_FormatTree_L1 x1 n ([] : List Int) 0) fun x267 =>
 bindO (strings_Builder_String x267) fun (k321, s322) =>
 some s322)

theorem impl_FormatTree_ok (n : Nat) (x1 : List Nod) (s160 : Str) (h : impl_FormatTree n x1 = some s160) : FOk EE 17 [sF 0 x1] [nR x1] (S s160) [nR x1] := by
  unfold impl_FormatTree at h
  refine FOk_of_W 30 1 Tryz.func17 rfl rfl (Nat.le_of_ble_eq_true rfl) rfl (fun w X θ => ?_)
  refine Wsr ((Ws 1 [0] [0] ⟨[(0, sF 0 x1)], [nR x1]⟩ (Wnt ((W_seq (W_seq ?_))))))
  refine W_region (Ws 1 [0] [0, 6] ⟨[(0, sF 0 x1), (6, sF 0 x1)], [nR x1]⟩ (bindO_e h (fun b161 hc162 h => (Wc [.ro 0] rfl rfl rfl Tryz.func18 rfl (impl_ValidTree_ok n x1 b161 hc162) (aI (aI rfl rfl) (trivial)) rfl (Ws 1 [0] [0, 8] ⟨[(0, sF 0 x1), (8, B (!b161))], [nR x1]⟩ (Wnt (?_)))))))
  refine iteO_e h (fun hb164 h => W_true rfl hb164 ?_) (fun hb164 h => W_false rfl hb164 ?_)
  ·refine Wsr ((Ws 1 [0] [2] ⟨[(2, S [])], [nR x1]⟩ (Wnt ((W_ret (thenS_r ?_))))))
   cases h
   exact ⟨[0], True, by kernel_rfl, trivial⟩
  ·refine Ww [0] [0] ⟨[(0, sF 0 x1)], [nR x1]⟩ (W_skip (thenS_n (Wsr ((Wp 1 [0, 1] [0, 3] T2 ⟨[(0, sF 0 x1), (3, pA 1 0)], [nR x1, .cells [.sp 1 53, .nsl]]⟩ t2 (WO_bld 1 rfl (Wnt ((W_seq (Wsr ((Wp 3 [0, 1, 2] [0, 3, 9, 10, 11] T2 ⟨[(0, sF 0 x1), (3, pA 1 0), (9, sF 0 x1), (10, I (lI x1)), (11, I 0)], [nR x1, .cells [.sp 1 53, .bsl 2 (([] : List Int).length)], uO ([] : List Int)]⟩ t2 (Wnt ((W_block (W_loop (bindO_e h (fun x267 hx267 h => (WL_cut (impl_FormatTree_L1_ok w X θ x1 x267 n ([] : List Int) 0 hx267) ?_)))))))))))))))))))
   rintro _ _ ⟨rfl, rfl⟩
   refine blockS_y (thenS_n (Wsr ((bindO_e h (fun v324 hc323 h => ?_)))))
   obtain ⟨k321, s322⟩ := v324
   refine Wc [.own 1, .own 2] rfl rfl rfl Tryz.func33 rfl (strings_Builder_String_ok x267 k321 s322 hc323) (aI (trivial) (aI (trivial) (trivial))) rfl (Ws 1 [0] [2] ⟨[(2, S s322)], [nR x1]⟩ (Wnt ((W_ret ?_))))
   cases h
   exact ⟨[0], True, by kernel_rfl, trivial⟩

/- impl.FormatLocks -/
def impl_FormatLocks_L1 (x1 : List Lck) : Nat → (List Int) → Int → Option ((List Int))
| 0, _, _ => none
| n + 1, x281, i282 =>
 iteO (decide (i282 < ((x1.length : Nat) : Int)))
 (guardO (0 ≤ i282 ∧ i282 < ((x1.length : Nat) : Int)) <|
 bindO (iteO (decide (0 < i282))
 (bindO (strings_Builder_WriteString x281 [59, 32]) fun (x390, i391) =>
 some x390)
 (some x281)) fun x387 =>
 bindO (strconv_Itoa ((x1.getD i282.toNat dlck).who)) fun s394 =>
 bindO (strings_Builder_WriteString x387 s394) fun (x396, i397) =>
 bindO (strings_Builder_WriteByte x396 32) fun x399 =>
 bindO (strconv_Itoa ((x1.getD i282.toNat dlck).node)) fun s401 =>
 bindO (strings_Builder_WriteString x399 s401) fun (x403, i404) =>
 bindO (strings_Builder_WriteByte x403 32) fun x406 =>
 bindO (strconv_Itoa ((x1.getD i282.toNat dlck).mode)) fun s408 =>
 bindO (strings_Builder_WriteString x406 s408) fun (x410, i411) =>
 impl_FormatLocks_L1 x1 n x410 (w64 (i282 + 1)))
 (some x281)

theorem impl_FormatLocks_L1_ok (w : World) (X : Nat → Prop) (θ : List Loc) (x1 : List Lck) (x347 : (List Int)) : ∀ (n : Nat) (x281 : List Int) (i282 : Int), impl_FormatLocks_L1 x1 n x281 i282 = some x347 → WL EE ⟨w, X, θ, 35, 1⟩ (subC [1, 1, 1, 0, 1, 4, 4] (bodyC Tryz.f57)) (fun (e : Exit) (s : St) => e = .exit 0 ∧ s = ⟨[(3, pA 1 0)], [lR x1, .cells [.sp 1 53, .bsl 2 x347.length], uO x347]⟩) ⟨[(3, pA 1 0), (9, sF 0 x1), (10, I ((x1.length : Nat) : Int)), (11, I i282)], [lR x1, .cells [.sp 1 53, .bsl 2 x281.length], uO x281]⟩ := by
  intro n
  induction n with
  | zero => intro _ _ h; exact none_e h
  | succ n ih =>
    intro x281 i282 h
    rw [impl_FormatLocks_L1] at h
    refine WL_round ?_
    refine Wsr ((Wp 1 [0, 1, 2] [3, 9, 10, 11, 12] T2 ⟨[(3, pA 1 0), (9, sF 0 x1), (10, I (lI x1)), (11, I i282), (12, B (decide (i282 < (lI x1))))], [lR x1, .cells [.sp 1 53, .bsl 2 x281.length], uO x281]⟩ t2 (Wnt ((W_seq (iteO_e h (fun hb350 h => W_true rfl hb350 ?_) (fun hb350 h => W_false rfl hb350 ?_)))))))
    ·refine Ww [0, 1, 2] [3, 9, 10, 11] ⟨[(3, pA 1 0), (9, sF 0 x1), (10, I (lI x1)), (11, I i282)], [lR x1, .cells [.sp 1 53, .bsl 2 x281.length], uO x281]⟩ (W_skip (thenS_n (W_seq (W_block (Wsr ((guardO_e h (fun hg381 h => (Wp 6 [0, 1, 3, 2] [3, 4, 5, 9, 10, 11] ((0 ≤ i282 ∧ i282 < (lI x1)) ∧ T4) ⟨[(3, pA 1 0), (4, I i282), (5, pA 2 0), (9, sF 0 x1), (10, I (lI x1)), (11, I i282)], [lR x1, .cells [.sp 1 53, .bsl 3 x281.length], .cells [cI ((x1.getD i282.toNat dlck).who), cI ((x1.getD i282.toNat dlck).node), cI ((x1.getD i282.toNat dlck).mode)], uO x281]⟩ ⟨hg381, trivial, trivial, trivial, trivial⟩ (Wnt ((W_seq (Wsr ((Wp 2 [0, 1, 2, 3] [3, 5, 9, 10, 11, 17] T2 ⟨[(3, pA 1 0), (5, pA 2 0), (9, sF 0 x1), (10, I (lI x1)), (11, I i282), (17, B (decide (0 < i282)))], [lR x1, .cells [.sp 1 53, .bsl 3 x281.length], .cells [cI ((x1.getD i282.toNat dlck).who), cI ((x1.getD i282.toNat dlck).node), cI ((x1.getD i282.toNat dlck).mode)], uO x281]⟩ t2 (Wnt ((bindO_e h (fun x387 hx387 h => (W_cut (Q' := fun (e : Exit) (s : St) => e = .normal ∧ s = ⟨[(3, pA 1 0), (5, pA 2 0), (9, sF 0 x1), (10, I (lI x1)), (11, I i282)], [lR x1, .cells [.sp 1 53, .bsl 3 x387.length], .cells [cI ((x1.getD i282.toNat dlck).who), cI ((x1.getD i282.toNat dlck).node), cI ((x1.getD i282.toNat dlck).mode)], uO x387]⟩) ?_ ?_))))))))))))))))))))
     ·refine iteO_e hx387 (fun hb389 hx387 => W_true rfl hb389 ?_) (fun hb389 hx387 => W_false rfl hb389 ?_)
      ·refine W_region (Wb [0, 1, 2, 3] [3, 5, 9, 10, 11] ⟨[(3, pA 1 0), (5, pA 2 0), (9, sF 0 x1), (10, I (lI x1)), (11, I i282)], [lR x1, .cells [.sp 1 53, .bsl 3 x281.length], .cells [cI ((x1.getD i282.toNat dlck).who), cI ((x1.getD i282.toNat dlck).node), cI ((x1.getD i282.toNat dlck).mode)], uO x281]⟩ (bindO_e hx387 (fun v393 hc392 hx387 => ?_)))
       obtain ⟨x390, i391⟩ := v393
       refine Wc [.own 1, .own 3] rfl rfl rfl Tryz.func29 rfl (strings_Builder_WriteString_ok x281 [59, 32] x390 i391 hc392) (aI (trivial) (aI (trivial) (trivial))) rfl (Wb [0, 1, 2, 4] [3, 5, 9, 10, 11] ⟨[(3, pA 1 0), (5, pA 2 0), (9, sF 0 x1), (10, I (lI x1)), (11, I i282)], [lR x1, .cells [.sp 1 53, .bsl 3 x390.length], .cells [cI ((x1.getD i282.toNat dlck).who), cI ((x1.getD i282.toNat dlck).node), cI ((x1.getD i282.toNat dlck).mode)], uO x390]⟩ (WO_nil rfl ?_))
       cases hx387
       exact aI rfl rfl
      ·refine Ww [0, 1, 2, 3] [3, 5, 9, 10, 11] ⟨[(3, pA 1 0), (5, pA 2 0), (9, sF 0 x1), (10, I (lI x1)), (11, I i282)], [lR x1, .cells [.sp 1 53, .bsl 3 x281.length], .cells [cI ((x1.getD i282.toNat dlck).who), cI ((x1.getD i282.toNat dlck).node), cI ((x1.getD i282.toNat dlck).mode)], uO x281]⟩ (W_skip ?_)
       cases hx387
       exact aI rfl rfl
     ·rintro _ _ ⟨rfl, rfl⟩
      refine thenS_n (Wsr ((Wp 2 [0, 1, 2, 3] [3, 5, 9, 10, 11, 20] T2 ⟨[(3, pA 1 0), (5, pA 2 0), (9, sF 0 x1), (10, I (lI x1)), (11, I i282), (20, I ((x1.getD i282.toNat dlck).who))], [lR x1, .cells [.sp 1 53, .bsl 3 x387.length], .cells [cI ((x1.getD i282.toNat dlck).who), cI ((x1.getD i282.toNat dlck).node), cI ((x1.getD i282.toNat dlck).mode)], uO x387]⟩ t2 (bindO_e h (fun s394 hc395 h => (Wc [] rfl rfl rfl Tryz.func48 rfl (strconv_Itoa_ok ((x1.getD i282.toNat dlck).who) s394 hc395) (trivial) rfl (Wb [0, 1, 2, 3] [3, 5, 9, 10, 11, 21] ⟨[(3, pA 1 0), (5, pA 2 0), (9, sF 0 x1), (10, I (lI x1)), (11, I i282), (21, S s394)], [lR x1, .cells [.sp 1 53, .bsl 3 x387.length], .cells [cI ((x1.getD i282.toNat dlck).who), cI ((x1.getD i282.toNat dlck).node), cI ((x1.getD i282.toNat dlck).mode)], uO x387]⟩ (bindO_e h (fun v415 hc398 h => ?_)))))))))
      obtain ⟨x396, i397⟩ := v415
      refine Wc [.own 1, .own 3] rfl rfl rfl Tryz.func29 rfl (strings_Builder_WriteString_ok x387 s394 x396 i397 hc398) (aI (trivial) (aI (trivial) (trivial))) rfl (Wb [0, 1, 2, 4] [3, 5, 9, 10, 11] ⟨[(3, pA 1 0), (5, pA 2 0), (9, sF 0 x1), (10, I (lI x1)), (11, I i282)], [lR x1, .cells [.sp 1 53, .bsl 3 x396.length], .cells [cI ((x1.getD i282.toNat dlck).who), cI ((x1.getD i282.toNat dlck).node), cI ((x1.getD i282.toNat dlck).mode)], uO x396]⟩ (Wnt ((Wsr ((bindO_e h (fun x399 hc400 h => (Wc [.own 1, .own 3] rfl rfl rfl Tryz.func32 rfl (strings_Builder_WriteByte_ok x396 32 x399 hc400) (aI (trivial) (aI (trivial) (trivial))) rfl (Wb [0, 1, 2, 4] [3, 5, 9, 10, 11] ⟨[(3, pA 1 0), (5, pA 2 0), (9, sF 0 x1), (10, I (lI x1)), (11, I i282)], [lR x1, .cells [.sp 1 53, .bsl 3 x399.length], .cells [cI ((x1.getD i282.toNat dlck).who), cI ((x1.getD i282.toNat dlck).node), cI ((x1.getD i282.toNat dlck).mode)], uO x399]⟩ (Wnt ((Wsr ((Wp 2 [0, 1, 2, 3] [3, 5, 9, 10, 11, 25] T2 ⟨[(3, pA 1 0), (5, pA 2 0), (9, sF 0 x1), (10, I (lI x1)), (11, I i282), (25, I ((x1.getD i282.toNat dlck).node))], [lR x1, .cells [.sp 1 53, .bsl 3 x399.length], .cells [cI ((x1.getD i282.toNat dlck).who), cI ((x1.getD i282.toNat dlck).node), cI ((x1.getD i282.toNat dlck).mode)], uO x399]⟩ t2 (bindO_e h (fun s401 hc402 h => (Wc [] rfl rfl rfl Tryz.func48 rfl (strconv_Itoa_ok ((x1.getD i282.toNat dlck).node) s401 hc402) (trivial) rfl (Wb [0, 1, 2, 3] [3, 5, 9, 10, 11, 26] ⟨[(3, pA 1 0), (5, pA 2 0), (9, sF 0 x1), (10, I (lI x1)), (11, I i282), (26, S s401)], [lR x1, .cells [.sp 1 53, .bsl 3 x399.length], .cells [cI ((x1.getD i282.toNat dlck).who), cI ((x1.getD i282.toNat dlck).node), cI ((x1.getD i282.toNat dlck).mode)], uO x399]⟩ (bindO_e h (fun v414 hc405 h => ?_))))))))))))))))))))
      obtain ⟨x403, i404⟩ := v414
      refine Wc [.own 1, .own 3] rfl rfl rfl Tryz.func29 rfl (strings_Builder_WriteString_ok x399 s401 x403 i404 hc405) (aI (trivial) (aI (trivial) (trivial))) rfl (Wb [0, 1, 2, 4] [3, 5, 9, 10, 11] ⟨[(3, pA 1 0), (5, pA 2 0), (9, sF 0 x1), (10, I (lI x1)), (11, I i282)], [lR x1, .cells [.sp 1 53, .bsl 3 x403.length], .cells [cI ((x1.getD i282.toNat dlck).who), cI ((x1.getD i282.toNat dlck).node), cI ((x1.getD i282.toNat dlck).mode)], uO x403]⟩ (Wnt ((Wsr ((bindO_e h (fun x406 hc407 h => (Wc [.own 1, .own 3] rfl rfl rfl Tryz.func32 rfl (strings_Builder_WriteByte_ok x403 32 x406 hc407) (aI (trivial) (aI (trivial) (trivial))) rfl (Wb [0, 1, 2, 4] [3, 5, 9, 10, 11] ⟨[(3, pA 1 0), (5, pA 2 0), (9, sF 0 x1), (10, I (lI x1)), (11, I i282)], [lR x1, .cells [.sp 1 53, .bsl 3 x406.length], .cells [cI ((x1.getD i282.toNat dlck).who), cI ((x1.getD i282.toNat dlck).node), cI ((x1.getD i282.toNat dlck).mode)], uO x406]⟩ (Wnt ((W_region (Wp 2 [0, 1, 3] [3, 9, 10, 11, 30] T2 ⟨[(3, pA 1 0), (9, sF 0 x1), (10, I (lI x1)), (11, I i282), (30, I ((x1.getD i282.toNat dlck).mode))], [lR x1, .cells [.sp 1 53, .bsl 2 x406.length], uO x406]⟩ t2 (bindO_e h (fun s408 hc409 h => (Wc [] rfl rfl rfl Tryz.func48 rfl (strconv_Itoa_ok ((x1.getD i282.toNat dlck).mode) s408 hc409) (trivial) rfl (Wb [0, 1, 2] [3, 9, 10, 11, 31] ⟨[(3, pA 1 0), (9, sF 0 x1), (10, I (lI x1)), (11, I i282), (31, S s408)], [lR x1, .cells [.sp 1 53, .bsl 2 x406.length], uO x406]⟩ (bindO_e h (fun v413 hc412 h => ?_)))))))))))))))))))
      obtain ⟨x410, i411⟩ := v413
      refine Wc [.own 1, .own 2] rfl rfl rfl Tryz.func29 rfl (strings_Builder_WriteString_ok x406 s408 x410 i411 hc412) (aI (trivial) (aI (trivial) (trivial))) rfl (Wb [0, 1, 3] [3, 9, 10, 11] ⟨[(3, pA 1 0), (9, sF 0 x1), (10, I (lI x1)), (11, I i282)], [lR x1, .cells [.sp 1 53, .bsl 2 x410.length], uO x410]⟩ (WO_nil rfl (blockS_n (thenS_n (W_region (Wp 2 [0, 1, 2] [3, 9, 10, 11] T2 ⟨[(3, pA 1 0), (9, sF 0 x1), (10, I (lI x1)), (11, I (w64 (i282 + 1)))], [lR x1, .cells [.sp 1 53, .bsl 2 x410.length], uO x410]⟩ t2 (Wnt (?_))))))))
      exact ih _ _ h
    ·refine Ww [0, 1, 2] [3] ⟨[(3, pA 1 0)], [lR x1, .cells [.sp 1 53, .bsl 2 x281.length], uO x281]⟩ (W_exit (thenS_e (thenS_e ?_)))
     cases h
     exact aI rfl rfl

def impl_FormatLocks (n : Nat) (x1 : List Lck) : Option (Str) :=
 bindO (impl_ValidTable n x1) fun b209 =>
 iteO (!b209)
 (some [])
 (bindO (impl_FormatLocks_L1 x1 n ([] : List Int) 0) fun x347 =>
 bindO (strings_Builder_String x347) fun (k417, s418) =>
 some s418)

theorem impl_FormatLocks_ok (n : Nat) (x1 : List Lck) (s208 : Str) (h : impl_FormatLocks n x1 = some s208) : FOk EE 57 [sF 0 x1] [lR x1] (S s208) [lR x1] := by
  unfold impl_FormatLocks at h
  refine FOk_of_W 35 1 Tryz.func57 rfl rfl (Nat.le_of_ble_eq_true rfl) rfl (fun w X θ => ?_)
  refine Wsr ((Ws 1 [0] [0] ⟨[(0, sF 0 x1)], [lR x1]⟩ (Wnt ((W_seq (W_seq ?_))))))
  refine W_region (Ws 1 [0] [0, 6] ⟨[(0, sF 0 x1), (6, sF 0 x1)], [lR x1]⟩ (bindO_e h (fun b209 hc210 h => (Wc [.ro 0] rfl rfl rfl Tryz.func86 rfl (impl_ValidTable_ok n x1 b209 hc210) (aI (aI rfl rfl) (trivial)) rfl (Ws 1 [0] [0, 8] ⟨[(0, sF 0 x1), (8, B (!b209))], [lR x1]⟩ (Wnt (?_)))))))
  refine iteO_e h (fun hb212 h => W_true rfl hb212 ?_) (fun hb212 h => W_false rfl hb212 ?_)
  ·refine Wsr ((Ws 1 [0] [2] ⟨[(2, S [])], [lR x1]⟩ (Wnt ((W_ret (thenS_r ?_))))))
   cases h
   exact ⟨[0], True, by kernel_rfl, trivial⟩
  ·refine Ww [0] [0] ⟨[(0, sF 0 x1)], [lR x1]⟩ (W_skip (thenS_n (Wsr ((Wp 1 [0, 1] [0, 3] T2 ⟨[(0, sF 0 x1), (3, pA 1 0)], [lR x1, .cells [.sp 1 53, .nsl]]⟩ t2 (WO_bld 1 rfl (Wnt ((W_seq (Wsr ((Wp 3 [0, 1, 2] [3, 9, 10, 11] T2 ⟨[(3, pA 1 0), (9, sF 0 x1), (10, I (lI x1)), (11, I 0)], [lR x1, .cells [.sp 1 53, .bsl 2 (([] : List Int).length)], uO ([] : List Int)]⟩ t2 (Wnt ((W_block (W_loop (bindO_e h (fun x347 hx347 h => (WL_cut (impl_FormatLocks_L1_ok w X θ x1 x347 n ([] : List Int) 0 hx347) ?_)))))))))))))))))))
   rintro _ _ ⟨rfl, rfl⟩
   refine blockS_y (thenS_n (Wsr ((bindO_e h (fun v420 hc419 h => ?_)))))
   obtain ⟨k417, s418⟩ := v420
   refine Wc [.own 1, .own 2] rfl rfl rfl Tryz.func33 rfl (strings_Builder_String_ok x347 k417 s418 hc419) (aI (trivial) (aI (trivial) (trivial))) rfl (Ws 1 [0] [2] ⟨[(2, S s418)], [lR x1]⟩ (Wnt ((W_ret ?_))))
   cases h
   exact ⟨[0], True, by kernel_rfl, trivial⟩

/- impl.session).execute -/
def impl_session_execute (n : Nat) (x1 : List Nod) (k2 : Nat) (x3 : List Lck) (k4 : Nat) (x5 : List Str) : Option (Nat × Nat × (List Nod) × (List Lck) × Str) :=
 guardO (0 ≤ (0 : Int) ∧ (0 : Int) < ((x5.length : Nat) : Int)) <|
 iteO ((decide ((x5.getD 0 []) = [114, 101, 97, 100])) && (decide (((x5.length : Nat) : Int) = 3)))
 (guardO (0 ≤ (1 : Int) ∧ (1 : Int) < ((x5.length : Nat) : Int)) <|
 guardO (0 ≤ (2 : Int) ∧ (2 : Int) < ((x5.length : Nat) : Int)) <|
 bindO (impl_session_lock n x1 k2 x3 k4 (x5.getD 1 []) (x5.getD 2 []) 3) fun (k5406, x5407, s5408) =>
 some (k2, k5406, x1, x5407, s5408))
 (guardO (0 ≤ (0 : Int) ∧ (0 : Int) < ((x5.length : Nat) : Int)) <|
 iteO ((decide ((x5.getD 0 []) = [119, 114, 105, 116, 101])) && (decide (((x5.length : Nat) : Int) = 3)))
 (guardO (0 ≤ (1 : Int) ∧ (1 : Int) < ((x5.length : Nat) : Int)) <|
 guardO (0 ≤ (2 : Int) ∧ (2 : Int) < ((x5.length : Nat) : Int)) <|
 bindO (impl_session_lock n x1 k2 x3 k4 (x5.getD 1 []) (x5.getD 2 []) 5) fun (k5796, x5797, s5798) =>
 some (k2, k5796, x1, x5797, s5798))
 (guardO (0 ≤ (0 : Int) ∧ (0 : Int) < ((x5.length : Nat) : Int)) <|
 iteO ((decide ((x5.getD 0 []) = [103, 101, 116])) && (decide (((x5.length : Nat) : Int) = 3)))
 (guardO (0 ≤ (1 : Int) ∧ (1 : Int) < ((x5.length : Nat) : Int)) <|
 guardO (0 ≤ (2 : Int) ∧ (2 : Int) < ((x5.length : Nat) : Int)) <|
 bindO (impl_session_get n x1 k2 x3 k4 (x5.getD 1 []) (x5.getD 2 [])) fun s5991 =>
 some (k2, k4, x1, x3, s5991))
 (guardO (0 ≤ (0 : Int) ∧ (0 : Int) < ((x5.length : Nat) : Int)) <|
 iteO ((decide ((x5.getD 0 []) = [115, 101, 116])) && (decide (((x5.length : Nat) : Int) = 4)))
 (guardO (0 ≤ (1 : Int) ∧ (1 : Int) < ((x5.length : Nat) : Int)) <|
 guardO (0 ≤ (2 : Int) ∧ (2 : Int) < ((x5.length : Nat) : Int)) <|
 guardO (0 ≤ (3 : Int) ∧ (3 : Int) < ((x5.length : Nat) : Int)) <|
 bindO (impl_session_set n x1 k2 x3 k4 (x5.getD 1 []) (x5.getD 2 []) (x5.getD 3 [])) fun (k6088, x6089, s6090) =>
 some (k6088, k4, x6089, x3, s6090))
 (guardO (0 ≤ (0 : Int) ∧ (0 : Int) < ((x5.length : Nat) : Int)) <|
 iteO ((decide ((x5.getD 0 []) = [102, 114, 101, 101])) && (decide (((x5.length : Nat) : Int) = 2)))
 (guardO (0 ≤ (1 : Int) ∧ (1 : Int) < ((x5.length : Nat) : Int)) <|
 bindO (impl_session_free n x1 k2 x3 k4 (x5.getD 1 [])) fun (k6136, x6137, s6138) =>
 some (k2, k6136, x1, x6137, s6138))
 (guardO (0 ≤ (0 : Int) ∧ (0 : Int) < ((x5.length : Nat) : Int)) <|
 iteO ((decide ((x5.getD 0 []) = [116, 114, 101, 101])) && (decide (((x5.length : Nat) : Int) = 1)))
 (bindO (impl_FormatTree n ((x1.drop 0).take k2)) fun s6159 =>
 some (k2, k4, x1, x3, s6159))
 (guardO (0 ≤ (0 : Int) ∧ (0 : Int) < ((x5.length : Nat) : Int)) <|
 iteO ((decide ((x5.getD 0 []) = [108, 111, 99, 107, 115])) && (decide (((x5.length : Nat) : Int) = 1)))
 (bindO (impl_FormatLocks n ((x3.drop 0).take k4)) fun s6169 =>
 some (k2, k4, x1, x3, s6169))
 (some (k2, k4, x1, x3, [119, 104, 97, 116]))))))))

theorem impl_session_execute_ok (n : Nat) (x1 : List Nod) (k2 : Nat) (x3 : List Lck) (k4 : Nat) (x5 : List Str) (k3086 : Nat) (k3087 : Nat) (x3088 : List Nod) (x3089 : List Lck) (s3090 : Str) (h : impl_session_execute n x1 k2 x3 k4 x5 = some (k3086, k3087, x3088, x3089, s3090)) : FOk EE 30 [pA 0 0, sF 3 x5] [.cells [.sl 1 0 k2, .sl 2 0 k4], nO x1, lO x3, sR x5] (S s3090) [.cells [.sl 4 0 k3086, .sl 5 0 k3087], .dead, .dead, sR x5, nO x3088, lO x3089] := by
  unfold impl_session_execute at h
  refine FOk_of_W 125 4 Tryz.func30 rfl rfl (Nat.le_of_ble_eq_true rfl) rfl (fun w X θ => ?_)
  refine Wsr ((Ws 1 [0, 1, 2, 3] [0, 1] ⟨[(0, pA 0 0), (1, sF 3 x5)], [.cells [.sl 1 0 k2, .sl 2 0 k4], nO x1, lO x3, sR x5]⟩ (Wnt ((W_seq (W_block ?_))))))
  refine Wsr ((guardO_e h (fun hg4631 h => (Wp 5 [0, 1, 2, 3] [0, 1, 10] ((0 ≤ (0 : Int) ∧ (0 : Int) < (lI x5)) ∧ T3) ⟨[(0, pA 0 0), (1, sF 3 x5), (10, B (decide ((x5.getD 0 []) = [114, 101, 97, 100])))], [.cells [.sl 1 0 k2, .sl 2 0 k4], nO x1, lO x3, sR x5]⟩ ⟨hg4631, trivial, trivial, trivial⟩ (WO_thru ⟨[(0, pA 0 0), (1, sF 3 x5), (5, B ((decide ((x5.getD 0 []) = [114, 101, 97, 100])) && (decide ((lI x5) = 3))))], [.cells [.sl 1 0 k2, .sl 2 0 k4], nO x1, lO x3, sR x5]⟩ ?_ ?_)))))
  ·refine WO_if 10 rfl (fun hb4634 => ?_) (fun hb4634 => ?_)
   ·refine Wp 5 [0, 1, 2, 3] [0, 1, 5] T3 ⟨[(0, pA 0 0), (1, sF 3 x5), (5, B (decide ((lI x5) = 3)))], [.cells [.sl 1 0 k2, .sl 2 0 k4], nO x1, lO x3, sR x5]⟩ t3 ?_
    exact WO_nil rfl ⟨rfl, by first | rfl | (rw [hb4634]; first | done | rfl)⟩
   ·refine Ws 5 [0, 1, 2, 3] [0, 1, 5] ⟨[(0, pA 0 0), (1, sF 3 x5), (5, B false)], [.cells [.sl 1 0 k2, .sl 2 0 k4], nO x1, lO x3, sR x5]⟩ ?_
    exact WO_nil rfl ⟨rfl, by first | rfl | (rw [hb4634]; first | done | rfl)⟩
  ·refine thenS_n (iteO_e h (fun hb5403 h => W_true rfl hb5403 ?_) (fun hb5403 h => W_false rfl hb5403 ?_))
   ·refine W_seq (guardO_e h (fun hg5404 h => (guardO_e h (fun hg5405 h => (bindO_e h (fun v5410 hc5409 h => ?_))))))
    obtain ⟨k5406, x5407, s5408⟩ := v5410
    refine W_cut (Q' := fun (e : Exit) (s : St) => e = .normal ∧ s = ⟨[(4, S s5408)], [.cells [.sl 1 0 k2, .sl 4 0 k5406], nO x1, .dead, sR x5, lO x5407]⟩) ?_ ?_
    ·refine W_draw [0, 2] false (by kernel_rfl) (by kernel_rfl) (WD_takeQ [0, 1, 2, 3, 4, 5, 6] [15, 18, 21] [15, 18, 21] (φ := ((0 ≤ (1 : Int) ∧ (1 : Int) < (lI x5)) ∧ (0 ≤ (1 : Int) ∧ (1 : Int) < (lI x5)) ∧ (True ∧ True ∧ ((0 ≤ (2 : Int) ∧ (2 : Int) < (lI x5)) ∧ (0 ≤ (2 : Int) ∧ (2 : Int) < (lI x5)) ∧ (True ∧ True ∧ True))))) (ls' := (tf true [7, 2])) (st' := ⟨[(15, pA 0 0), (18, S (x5.getD 1 [])), (21, S (x5.getD 2 []))], [.cells [.sl 1 0 k2, .sl 2 0 k4], nO x1, lO x3, sR x5]⟩) (n2 := 2) (by kernel_rfl) ⟨hg5404, hg5404, trivial, trivial, hg5405, hg5405, trivial, trivial, trivial⟩ rfl (WD_all [7] (n := 1) (by kernel_rfl) rfl (WM_call [.own 0, .ro 1, .own 2] Tryz.f53 rfl rfl (by kernel_rfl) Tryz.func53 rfl (by kernel_rfl) (impl_session_lock_ok n x1 k2 x3 k4 (x5.getD 1 []) (x5.getD 2 []) 3 k5406 x5407 s5408 hc5409) (aI (trivial) (aI (aI rfl rfl) (aI (trivial) (trivial)))) rfl (aI rfl (aI rfl (trivial))) (WD_takeQ [8] [4] [4] (φ := True) (ls' := (tf true [9])) (st' := ⟨[(4, S s5408)], [.cells [.sl 1 0 k2, .sl 4 0 k5406], nO x1, .dead, sR x5, lO x5407]⟩) (n2 := 0) (by kernel_rfl) trivial rfl ?_))))
     exact WD_done [0, 1, 2, 3, 4] [4] (st' := ⟨[(4, S s5408)], [.cells [.sl 1 0 k2, .sl 4 0 k5406], nO x1, .dead, sR x5, lO x5407]⟩) (by kernel_rfl) (by kernel_rfl) (aI rfl rfl)
    ·rintro _ _ ⟨rfl, rfl⟩
     refine thenS_n (W_ret (blockS_r (thenS_r ?_)))
     cases h
     exact ⟨[0, 999, 2, 3, 1, 4], True, by kernel_rfl, trivial⟩
   ·refine Wsr ((guardO_e h (fun hg5411 h => (Wp 5 [0, 1, 2, 3] [0, 1, 28] ((0 ≤ (0 : Int) ∧ (0 : Int) < (lI x5)) ∧ T3) ⟨[(0, pA 0 0), (1, sF 3 x5), (28, B (decide ((x5.getD 0 []) = [119, 114, 105, 116, 101])))], [.cells [.sl 1 0 k2, .sl 2 0 k4], nO x1, lO x3, sR x5]⟩ ⟨hg5411, trivial, trivial, trivial⟩ (WO_thru ⟨[(0, pA 0 0), (1, sF 3 x5), (23, B ((decide ((x5.getD 0 []) = [119, 114, 105, 116, 101])) && (decide ((lI x5) = 3))))], [.cells [.sl 1 0 k2, .sl 2 0 k4], nO x1, lO x3, sR x5]⟩ ?_ ?_)))))
    ·refine WO_if 28 rfl (fun hb5414 => ?_) (fun hb5414 => ?_)
     ·refine Wp 5 [0, 1, 2, 3] [0, 1, 23] T3 ⟨[(0, pA 0 0), (1, sF 3 x5), (23, B (decide ((lI x5) = 3)))], [.cells [.sl 1 0 k2, .sl 2 0 k4], nO x1, lO x3, sR x5]⟩ t3 ?_
      exact WO_nil rfl ⟨rfl, by first | rfl | (rw [hb5414]; first | done | rfl)⟩
     ·refine Ws 5 [0, 1, 2, 3] [0, 1, 23] ⟨[(0, pA 0 0), (1, sF 3 x5), (23, B false)], [.cells [.sl 1 0 k2, .sl 2 0 k4], nO x1, lO x3, sR x5]⟩ ?_
      exact WO_nil rfl ⟨rfl, by first | rfl | (rw [hb5414]; first | done | rfl)⟩
    ·refine thenS_n (iteO_e h (fun hb5793 h => W_true rfl hb5793 ?_) (fun hb5793 h => W_false rfl hb5793 ?_))
     ·refine W_seq (guardO_e h (fun hg5794 h => (guardO_e h (fun hg5795 h => (bindO_e h (fun v5800 hc5799 h => ?_))))))
      obtain ⟨k5796, x5797, s5798⟩ := v5800
      refine W_cut (Q' := fun (e : Exit) (s : St) => e = .normal ∧ s = ⟨[(4, S s5798)], [.cells [.sl 1 0 k2, .sl 4 0 k5796], nO x1, .dead, sR x5, lO x5797]⟩) ?_ ?_
      ·refine W_draw [0, 2] false (by kernel_rfl) (by kernel_rfl) (WD_takeQ [0, 1, 2, 3, 4, 5, 6] [33, 36, 39] [33, 36, 39] (φ := ((0 ≤ (1 : Int) ∧ (1 : Int) < (lI x5)) ∧ (0 ≤ (1 : Int) ∧ (1 : Int) < (lI x5)) ∧ (True ∧ True ∧ ((0 ≤ (2 : Int) ∧ (2 : Int) < (lI x5)) ∧ (0 ≤ (2 : Int) ∧ (2 : Int) < (lI x5)) ∧ (True ∧ True ∧ True))))) (ls' := (tf true [7, 2])) (st' := ⟨[(33, pA 0 0), (36, S (x5.getD 1 [])), (39, S (x5.getD 2 []))], [.cells [.sl 1 0 k2, .sl 2 0 k4], nO x1, lO x3, sR x5]⟩) (n2 := 2) (by kernel_rfl) ⟨hg5794, hg5794, trivial, trivial, hg5795, hg5795, trivial, trivial, trivial⟩ rfl (WD_all [7] (n := 1) (by kernel_rfl) rfl (WM_call [.own 0, .ro 1, .own 2] Tryz.f53 rfl rfl (by kernel_rfl) Tryz.func53 rfl (by kernel_rfl) (impl_session_lock_ok n x1 k2 x3 k4 (x5.getD 1 []) (x5.getD 2 []) 5 k5796 x5797 s5798 hc5799) (aI (trivial) (aI (aI rfl rfl) (aI (trivial) (trivial)))) rfl (aI rfl (aI rfl (trivial))) (WD_takeQ [8] [4] [4] (φ := True) (ls' := (tf true [9])) (st' := ⟨[(4, S s5798)], [.cells [.sl 1 0 k2, .sl 4 0 k5796], nO x1, .dead, sR x5, lO x5797]⟩) (n2 := 0) (by kernel_rfl) trivial rfl ?_))))
       exact WD_done [0, 1, 2, 3, 4] [4] (st' := ⟨[(4, S s5798)], [.cells [.sl 1 0 k2, .sl 4 0 k5796], nO x1, .dead, sR x5, lO x5797]⟩) (by kernel_rfl) (by kernel_rfl) (aI rfl rfl)
      ·rintro _ _ ⟨rfl, rfl⟩
       refine thenS_n (W_ret (blockS_r (thenS_r ?_)))
       cases h
       exact ⟨[0, 999, 2, 3, 1, 4], True, by kernel_rfl, trivial⟩
     ·refine Wsr ((guardO_e h (fun hg5801 h => (Wp 5 [0, 1, 2, 3] [0, 1, 46] ((0 ≤ (0 : Int) ∧ (0 : Int) < (lI x5)) ∧ T3) ⟨[(0, pA 0 0), (1, sF 3 x5), (46, B (decide ((x5.getD 0 []) = [103, 101, 116])))], [.cells [.sl 1 0 k2, .sl 2 0 k4], nO x1, lO x3, sR x5]⟩ ⟨hg5801, trivial, trivial, trivial⟩ (WO_thru ⟨[(0, pA 0 0), (1, sF 3 x5), (41, B ((decide ((x5.getD 0 []) = [103, 101, 116])) && (decide ((lI x5) = 3))))], [.cells [.sl 1 0 k2, .sl 2 0 k4], nO x1, lO x3, sR x5]⟩ ?_ ?_)))))
      ·refine WO_if 46 rfl (fun hb5804 => ?_) (fun hb5804 => ?_)
       ·refine Wp 5 [0, 1, 2, 3] [0, 1, 41] T3 ⟨[(0, pA 0 0), (1, sF 3 x5), (41, B (decide ((lI x5) = 3)))], [.cells [.sl 1 0 k2, .sl 2 0 k4], nO x1, lO x3, sR x5]⟩ t3 ?_
        exact WO_nil rfl ⟨rfl, by first | rfl | (rw [hb5804]; first | done | rfl)⟩
       ·refine Ws 5 [0, 1, 2, 3] [0, 1, 41] ⟨[(0, pA 0 0), (1, sF 3 x5), (41, B false)], [.cells [.sl 1 0 k2, .sl 2 0 k4], nO x1, lO x3, sR x5]⟩ ?_
        exact WO_nil rfl ⟨rfl, by first | rfl | (rw [hb5804]; first | done | rfl)⟩
      ·refine thenS_n (iteO_e h (fun hb5988 h => W_true rfl hb5988 ?_) (fun hb5988 h => W_false rfl hb5988 ?_))
       ·refine W_seq (guardO_e h (fun hg5989 h => (guardO_e h (fun hg5990 h => (bindO_e h (fun s5991 hc5992 h => (W_cut (Q' := fun (e : Exit) (s : St) => e = .normal ∧ s = ⟨[(4, S s5991)], [.cells [.sl 1 0 k2, .sl 2 0 k4], nO x1, lO x3, sR x5]⟩) ?_ ?_)))))))
        ·refine W_draw [0] false (by kernel_rfl) (by kernel_rfl) (WD_takeQ [0, 1, 2, 3, 4, 5, 6] [51, 54, 57] [51, 54, 57] (φ := ((0 ≤ (1 : Int) ∧ (1 : Int) < (lI x5)) ∧ (0 ≤ (1 : Int) ∧ (1 : Int) < (lI x5)) ∧ (True ∧ True ∧ ((0 ≤ (2 : Int) ∧ (2 : Int) < (lI x5)) ∧ (0 ≤ (2 : Int) ∧ (2 : Int) < (lI x5)) ∧ (True ∧ True ∧ True))))) (ls' := (tf true [7, 2])) (st' := ⟨[(51, pA 0 0), (54, S (x5.getD 1 [])), (57, S (x5.getD 2 []))], [.cells [.sl 1 0 k2, .sl 2 0 k4], nO x1, lO x3, sR x5]⟩) (n2 := 2) (by kernel_rfl) ⟨hg5989, hg5989, trivial, trivial, hg5990, hg5990, trivial, trivial, trivial⟩ rfl (WD_all [7] (n := 1) (by kernel_rfl) rfl (WM_call [.own 0, .ro 1, .ro 2] Tryz.f54 rfl rfl (by kernel_rfl) Tryz.func54 rfl (by kernel_rfl) (impl_session_get_ok n x1 k2 x3 k4 (x5.getD 1 []) (x5.getD 2 []) s5991 hc5992) (aI (trivial) (aI (aI rfl rfl) (aI (aI rfl rfl) (trivial)))) rfl (aI rfl (aI rfl (aI rfl (trivial)))) (WD_takeQ [8] [4] [4] (φ := True) (ls' := (tf true [9])) (st' := ⟨[(4, S s5991)], [.cells [.sl 1 0 k2, .sl 2 0 k4], nO x1, lO x3, sR x5]⟩) (n2 := 0) (by kernel_rfl) trivial rfl ?_))))
         exact WD_done [0, 1, 2, 3] [4] (st' := ⟨[(4, S s5991)], [.cells [.sl 1 0 k2, .sl 2 0 k4], nO x1, lO x3, sR x5]⟩) (by kernel_rfl) (by kernel_rfl) (aI rfl rfl)
        ·rintro _ _ ⟨rfl, rfl⟩
         refine thenS_n (W_ret (blockS_r (thenS_r ?_)))
         cases h
         exact ⟨[0, 999, 999, 3, 1, 2], True, by kernel_rfl, trivial⟩
       ·refine Wsr ((guardO_e h (fun hg5993 h => (Wp 5 [0, 1, 2, 3] [0, 1, 64] ((0 ≤ (0 : Int) ∧ (0 : Int) < (lI x5)) ∧ T3) ⟨[(0, pA 0 0), (1, sF 3 x5), (64, B (decide ((x5.getD 0 []) = [115, 101, 116])))], [.cells [.sl 1 0 k2, .sl 2 0 k4], nO x1, lO x3, sR x5]⟩ ⟨hg5993, trivial, trivial, trivial⟩ (WO_thru ⟨[(0, pA 0 0), (1, sF 3 x5), (59, B ((decide ((x5.getD 0 []) = [115, 101, 116])) && (decide ((lI x5) = 4))))], [.cells [.sl 1 0 k2, .sl 2 0 k4], nO x1, lO x3, sR x5]⟩ ?_ ?_)))))
        ·refine WO_if 64 rfl (fun hb5996 => ?_) (fun hb5996 => ?_)
         ·refine Wp 5 [0, 1, 2, 3] [0, 1, 59] T3 ⟨[(0, pA 0 0), (1, sF 3 x5), (59, B (decide ((lI x5) = 4)))], [.cells [.sl 1 0 k2, .sl 2 0 k4], nO x1, lO x3, sR x5]⟩ t3 ?_
          exact WO_nil rfl ⟨rfl, by first | rfl | (rw [hb5996]; first | done | rfl)⟩
         ·refine Ws 5 [0, 1, 2, 3] [0, 1, 59] ⟨[(0, pA 0 0), (1, sF 3 x5), (59, B false)], [.cells [.sl 1 0 k2, .sl 2 0 k4], nO x1, lO x3, sR x5]⟩ ?_
          exact WO_nil rfl ⟨rfl, by first | rfl | (rw [hb5996]; first | done | rfl)⟩
        ·refine thenS_n (iteO_e h (fun hb6084 h => W_true rfl hb6084 ?_) (fun hb6084 h => W_false rfl hb6084 ?_))
         ·refine W_seq (guardO_e h (fun hg6085 h => (guardO_e h (fun hg6086 h => (guardO_e h (fun hg6087 h => (bindO_e h (fun v6092 hc6091 h => ?_))))))))
          obtain ⟨k6088, x6089, s6090⟩ := v6092
          refine W_cut (Q' := fun (e : Exit) (s : St) => e = .normal ∧ s = ⟨[(4, S s6090)], [.cells [.sl 4 0 k6088, .sl 2 0 k4], .dead, lO x3, sR x5, nO x6089]⟩) ?_ ?_
          ·refine W_draw [0, 1] false (by kernel_rfl) (by kernel_rfl) (WD_takeQ [0, 1, 2, 3, 4, 5, 6, 7, 8, 9] [69, 72, 75, 78] [69, 72, 75, 78] (φ := ((0 ≤ (1 : Int) ∧ (1 : Int) < (lI x5)) ∧ (0 ≤ (1 : Int) ∧ (1 : Int) < (lI x5)) ∧ (True ∧ True ∧ ((0 ≤ (2 : Int) ∧ (2 : Int) < (lI x5)) ∧ (0 ≤ (2 : Int) ∧ (2 : Int) < (lI x5)) ∧ (True ∧ True ∧ ((0 ≤ (3 : Int) ∧ (3 : Int) < (lI x5)) ∧ (0 ≤ (3 : Int) ∧ (3 : Int) < (lI x5)) ∧ (True ∧ True ∧ True))))))) (ls' := (tf true [10, 2])) (st' := ⟨[(69, pA 0 0), (72, S (x5.getD 1 [])), (75, S (x5.getD 2 [])), (78, S (x5.getD 3 []))], [.cells [.sl 1 0 k2, .sl 2 0 k4], nO x1, lO x3, sR x5]⟩) (n2 := 2) (by kernel_rfl) ⟨hg6085, hg6085, trivial, trivial, hg6086, hg6086, trivial, trivial, hg6087, hg6087, trivial, trivial, trivial⟩ rfl (WD_all [10] (n := 1) (by kernel_rfl) rfl (WM_call [.own 0, .own 1, .ro 2] Tryz.f55 rfl rfl (by kernel_rfl) Tryz.func55 rfl (by kernel_rfl) (impl_session_set_ok n x1 k2 x3 k4 (x5.getD 1 []) (x5.getD 2 []) (x5.getD 3 []) k6088 x6089 s6090 hc6091) (aI (trivial) (aI (trivial) (aI (aI rfl rfl) (trivial)))) rfl (aI rfl (aI rfl (trivial))) (WD_takeQ [11] [4] [4] (φ := True) (ls' := (tf true [12])) (st' := ⟨[(4, S s6090)], [.cells [.sl 4 0 k6088, .sl 2 0 k4], .dead, lO x3, sR x5, nO x6089]⟩) (n2 := 0) (by kernel_rfl) trivial rfl ?_))))
           exact WD_done [0, 1, 2, 3, 4] [4] (st' := ⟨[(4, S s6090)], [.cells [.sl 4 0 k6088, .sl 2 0 k4], .dead, lO x3, sR x5, nO x6089]⟩) (by kernel_rfl) (by kernel_rfl) (aI rfl rfl)
          ·rintro _ _ ⟨rfl, rfl⟩
           refine thenS_n (W_ret (blockS_r (thenS_r ?_)))
           cases h
           exact ⟨[0, 1, 999, 3, 4, 2], True, by kernel_rfl, trivial⟩
         ·refine Wsr ((guardO_e h (fun hg6093 h => (Wp 5 [0, 1, 2, 3] [0, 1, 85] ((0 ≤ (0 : Int) ∧ (0 : Int) < (lI x5)) ∧ T3) ⟨[(0, pA 0 0), (1, sF 3 x5), (85, B (decide ((x5.getD 0 []) = [102, 114, 101, 101])))], [.cells [.sl 1 0 k2, .sl 2 0 k4], nO x1, lO x3, sR x5]⟩ ⟨hg6093, trivial, trivial, trivial⟩ (WO_thru ⟨[(0, pA 0 0), (1, sF 3 x5), (80, B ((decide ((x5.getD 0 []) = [102, 114, 101, 101])) && (decide ((lI x5) = 2))))], [.cells [.sl 1 0 k2, .sl 2 0 k4], nO x1, lO x3, sR x5]⟩ ?_ ?_)))))
          ·refine WO_if 85 rfl (fun hb6096 => ?_) (fun hb6096 => ?_)
           ·refine Wp 5 [0, 1, 2, 3] [0, 1, 80] T3 ⟨[(0, pA 0 0), (1, sF 3 x5), (80, B (decide ((lI x5) = 2)))], [.cells [.sl 1 0 k2, .sl 2 0 k4], nO x1, lO x3, sR x5]⟩ t3 ?_
            exact WO_nil rfl ⟨rfl, by first | rfl | (rw [hb6096]; first | done | rfl)⟩
           ·refine Ws 5 [0, 1, 2, 3] [0, 1, 80] ⟨[(0, pA 0 0), (1, sF 3 x5), (80, B false)], [.cells [.sl 1 0 k2, .sl 2 0 k4], nO x1, lO x3, sR x5]⟩ ?_
            exact WO_nil rfl ⟨rfl, by first | rfl | (rw [hb6096]; first | done | rfl)⟩
          ·refine thenS_n (iteO_e h (fun hb6134 h => W_true rfl hb6134 ?_) (fun hb6134 h => W_false rfl hb6134 ?_))
           ·refine Wsr ((guardO_e h (fun hg6135 h => (Wp 4 [0, 1, 2, 3] [90, 93] ((0 ≤ (1 : Int) ∧ (1 : Int) < (lI x5)) ∧ T2) ⟨[(90, pA 0 0), (93, S (x5.getD 1 []))], [.cells [.sl 1 0 k2, .sl 2 0 k4], nO x1, lO x3, sR x5]⟩ ⟨hg6135, trivial, trivial⟩ (bindO_e h (fun v6140 hc6139 h => ?_))))))
            obtain ⟨k6136, x6137, s6138⟩ := v6140
            refine Wc [.own 0, .ro 1, .own 2] rfl rfl rfl Tryz.func56 rfl (impl_session_free_ok n x1 k2 x3 k4 (x5.getD 1 []) k6136 x6137 s6138 hc6139) (aI (trivial) (aI (aI rfl rfl) (aI (trivial) (trivial)))) rfl (Ws 1 [0, 1, 2, 3, 4] [4] ⟨[(4, S s6138)], [.cells [.sl 1 0 k2, .sl 4 0 k6136], nO x1, .dead, sR x5, lO x6137]⟩ (Wnt ((W_ret (blockS_r (thenS_r ?_))))))
            cases h
            exact ⟨[0, 999, 2, 3, 1, 4], True, by kernel_rfl, trivial⟩
           ·refine Wsr ((guardO_e h (fun hg6141 h => (Wp 5 [0, 1, 2, 3] [0, 1, 100] ((0 ≤ (0 : Int) ∧ (0 : Int) < (lI x5)) ∧ T3) ⟨[(0, pA 0 0), (1, sF 3 x5), (100, B (decide ((x5.getD 0 []) = [116, 114, 101, 101])))], [.cells [.sl 1 0 k2, .sl 2 0 k4], nO x1, lO x3, sR x5]⟩ ⟨hg6141, trivial, trivial, trivial⟩ (WO_thru ⟨[(0, pA 0 0), (1, sF 3 x5), (95, B ((decide ((x5.getD 0 []) = [116, 114, 101, 101])) && (decide ((lI x5) = 1))))], [.cells [.sl 1 0 k2, .sl 2 0 k4], nO x1, lO x3, sR x5]⟩ ?_ ?_)))))
            ·refine WO_if 100 rfl (fun hb6144 => ?_) (fun hb6144 => ?_)
             ·refine Wp 5 [0, 1, 2, 3] [0, 1, 95] T3 ⟨[(0, pA 0 0), (1, sF 3 x5), (95, B (decide ((lI x5) = 1)))], [.cells [.sl 1 0 k2, .sl 2 0 k4], nO x1, lO x3, sR x5]⟩ t3 ?_
              exact WO_nil rfl ⟨rfl, by first | rfl | (rw [hb6144]; first | done | rfl)⟩
             ·refine Ws 5 [0, 1, 2, 3] [0, 1, 95] ⟨[(0, pA 0 0), (1, sF 3 x5), (95, B false)], [.cells [.sl 1 0 k2, .sl 2 0 k4], nO x1, lO x3, sR x5]⟩ ?_
              exact WO_nil rfl ⟨rfl, by first | rfl | (rw [hb6144]; first | done | rfl)⟩
            ·refine thenS_n (iteO_e h (fun hb6158 h => W_true rfl hb6158 ?_) (fun hb6158 h => W_false rfl hb6158 ?_))
             ·refine Wsr ((Wp 4 [0, 1, 2, 3] [108] T2 ⟨[(108, SL 1 0 k2)], [.cells [.sl 1 0 k2, .sl 2 0 k4], nO x1, lO x3, sR x5]⟩ t2 (bindO_e h (fun s6159 hc6160 h => (Wc [.view 0] rfl rfl rfl Tryz.func17 rfl (impl_FormatTree_ok n ((x1.drop 0).take k2) s6159 hc6160) (trivial) rfl (Ws 1 [0, 1, 2, 3] [4] ⟨[(4, S s6159)], [.cells [.sl 1 0 k2, .sl 2 0 k4], nO x1, lO x3, sR x5]⟩ (Wnt ((W_ret (blockS_r (thenS_r ?_)))))))))))
              cases h
              exact ⟨[0, 999, 999, 3, 1, 2], True, by kernel_rfl, trivial⟩
             ·refine Wsr ((guardO_e h (fun hg6161 h => (Wp 5 [0, 1, 2, 3] [0, 1, 115] ((0 ≤ (0 : Int) ∧ (0 : Int) < (lI x5)) ∧ T3) ⟨[(0, pA 0 0), (1, sF 3 x5), (115, B (decide ((x5.getD 0 []) = [108, 111, 99, 107, 115])))], [.cells [.sl 1 0 k2, .sl 2 0 k4], nO x1, lO x3, sR x5]⟩ ⟨hg6161, trivial, trivial, trivial⟩ (WO_thru ⟨[(0, pA 0 0), (110, B ((decide ((x5.getD 0 []) = [108, 111, 99, 107, 115])) && (decide ((lI x5) = 1))))], [.cells [.sl 1 0 k2, .sl 2 0 k4], nO x1, lO x3, sR x5]⟩ ?_ ?_)))))
              ·refine WO_if 115 rfl (fun hb6164 => ?_) (fun hb6164 => ?_)
               ·refine Wp 5 [0, 1, 2, 3] [0, 110] T3 ⟨[(0, pA 0 0), (110, B (decide ((lI x5) = 1)))], [.cells [.sl 1 0 k2, .sl 2 0 k4], nO x1, lO x3, sR x5]⟩ t3 ?_
                exact WO_nil rfl ⟨rfl, by first | rfl | (rw [hb6164]; first | done | rfl)⟩
               ·refine Ws 5 [0, 1, 2, 3] [0, 110] ⟨[(0, pA 0 0), (110, B false)], [.cells [.sl 1 0 k2, .sl 2 0 k4], nO x1, lO x3, sR x5]⟩ ?_
                exact WO_nil rfl ⟨rfl, by first | rfl | (rw [hb6164]; first | done | rfl)⟩
              ·refine thenS_n (iteO_e h (fun hb6168 h => W_true rfl hb6168 ?_) (fun hb6168 h => W_false rfl hb6168 ?_))
               ·refine Wsr ((Wp 4 [0, 1, 2, 3] [123] T2 ⟨[(123, SL 2 0 k4)], [.cells [.sl 1 0 k2, .sl 2 0 k4], nO x1, lO x3, sR x5]⟩ t2 (bindO_e h (fun s6169 hc6170 h => (Wc [.view 0] rfl rfl rfl Tryz.func57 rfl (impl_FormatLocks_ok n ((x3.drop 0).take k4) s6169 hc6170) (trivial) rfl (Ws 1 [0, 1, 2, 3] [4] ⟨[(4, S s6169)], [.cells [.sl 1 0 k2, .sl 2 0 k4], nO x1, lO x3, sR x5]⟩ (Wnt ((W_ret (blockS_r (thenS_r ?_)))))))))))
                cases h
                exact ⟨[0, 999, 999, 3, 1, 2], True, by kernel_rfl, trivial⟩
               ·refine Ww [0, 1, 2, 3] [] ⟨[], [.cells [.sl 1 0 k2, .sl 2 0 k4], nO x1, lO x3, sR x5]⟩ (W_skip (blockS_n (thenS_n (Wsr ((Ws 1 [0, 1, 2, 3] [4] ⟨[(4, S [119, 104, 97, 116])], [.cells [.sl 1 0 k2, .sl 2 0 k4], nO x1, lO x3, sR x5]⟩ (Wnt ((W_ret ?_)))))))))
                cases h
                exact ⟨[0, 999, 999, 3, 1, 2], True, by kernel_rfl, trivial⟩

/- impl.RunSession -/
def impl_RunSession_L1 (x1 : List Str) : Nat → Nat → Nat → (List Nod) → (List Lck) → (List Int) → Int → Option ((List Int))
| 0, _, _, _, _, _, _ => none
| n + 1, k243, k244, x245, x246, x247, i248 =>
 iteO (decide (i248 < (((if 20 < ((x1.length : Nat) : Int) then 20 else ((x1.length : Nat) : Int)).toNat : Nat) : Int)))
 (guardO (0 ≤ i248 ∧ i248 < (((if 20 < ((x1.length : Nat) : Int) then 20 else ((x1.length : Nat) : Int)).toNat : Nat) : Int)) <|
 bindO (strings_Split (x1.getD i248.toNat []) [32]) fun x310 =>
 bindO (impl_session_execute n x245 k243 x246 k244 x310) fun (k312, k313, x314, x315, s316) =>
 bindO (strings_Builder_WriteString x247 s316) fun (x318, i319) =>
 bindO (strings_Builder_WriteByte x318 10) fun x321 =>
 impl_RunSession_L1 x1 n k312 k313 x314 x315 x321 (w64 (i248 + 1)))
 (some x247)

theorem impl_RunSession_L1_ok (w : World) (X : Nat → Prop) (θ : List Loc) (x1 : List Str) (x289 : (List Int)) : ∀ (n : Nat) (k243 : Nat) (k244 : Nat) (x245 : List Nod) (x246 : List Lck) (x247 : List Int) (i248 : Int), impl_RunSession_L1 x1 n k243 k244 x245 x246 x247 i248 = some x289 → WL EE ⟨w, X, θ, 27, 1⟩ (subC [1, 1, 1, 0, 1, 4, 4] (bodyC Tryz.f11)) (fun (e : Exit) (s : St) => e = .exit 0 ∧ s = ⟨[(4, pA 1 0)], [sR x1, .cells [.sp 1 53, .bsl 2 x289.length], uO x289]⟩) ⟨[(3, pA 1 0), (4, pA 2 0), (14, .one (.e (.sl 0 0 ((if 20 < ((x1.length : Nat) : Int) then 20 else ((x1.length : Nat) : Int)).toNat)))), (15, I (((if 20 < ((x1.length : Nat) : Int) then 20 else ((x1.length : Nat) : Int)).toNat : Nat) : Int)), (16, I i248)], [sR x1, .cells [.sl 3 0 k243, .sl 4 0 k244], .cells [.sp 2 53, .bsl 5 x247.length], nO x245, lO x246, uO x247]⟩ := by
  intro n
  induction n with
  | zero => intro _ _ _ _ _ _ h; exact none_e h
  | succ n ih =>
    intro k243 k244 x245 x246 x247 i248 h
    rw [impl_RunSession_L1] at h
    refine WL_round ?_
    refine Wsr ((Wp 1 [0, 1, 2, 3, 4, 5] [3, 4, 14, 15, 16, 17] T2 ⟨[(3, pA 1 0), (4, pA 2 0), (14, .one (.e (.sl 0 0 ((if 20 < (lI x1) then 20 else (lI x1)).toNat)))), (15, I (((if 20 < (lI x1) then 20 else (lI x1)).toNat : Nat) : Int)), (16, I i248), (17, B (decide (i248 < (((if 20 < (lI x1) then 20 else (lI x1)).toNat : Nat) : Int))))], [sR x1, .cells [.sl 3 0 k243, .sl 4 0 k244], .cells [.sp 2 53, .bsl 5 x247.length], nO x245, lO x246, uO x247]⟩ t2 (Wnt ((W_seq (iteO_e h (fun hb292 h => W_true rfl hb292 ?_) (fun hb292 h => W_false rfl hb292 ?_)))))))
    ·refine Ww [0, 1, 2, 3, 4, 5] [3, 4, 14, 15, 16] ⟨[(3, pA 1 0), (4, pA 2 0), (14, .one (.e (.sl 0 0 ((if 20 < (lI x1) then 20 else (lI x1)).toNat)))), (15, I (((if 20 < (lI x1) then 20 else (lI x1)).toNat : Nat) : Int)), (16, I i248)], [sR x1, .cells [.sl 3 0 k243, .sl 4 0 k244], .cells [.sp 2 53, .bsl 5 x247.length], nO x245, lO x246, uO x247]⟩ (W_skip (thenS_n (W_seq (W_block (Wsr ((guardO_e h (fun hg309 h => (Wp 3 [0, 1, 2, 3, 4, 5] [3, 4, 6, 14, 15, 16] ((0 ≤ i248 ∧ i248 < (((if 20 < (lI x1) then 20 else (lI x1)).toNat : Nat) : Int)) ∧ T2) ⟨[(3, pA 1 0), (4, pA 2 0), (6, S (x1.getD i248.toNat [])), (14, .one (.e (.sl 0 0 ((if 20 < (lI x1) then 20 else (lI x1)).toNat)))), (15, I (((if 20 < (lI x1) then 20 else (lI x1)).toNat : Nat) : Int)), (16, I i248)], [sR x1, .cells [.sl 3 0 k243, .sl 4 0 k244], .cells [.sp 2 53, .bsl 5 x247.length], nO x245, lO x246, uO x247]⟩ ⟨hg309, trivial, trivial⟩ (Wnt ((Wsr ((Ws 1 [0, 1, 2, 3, 4, 5] [3, 4, 14, 15, 16, 20] ⟨[(3, pA 1 0), (4, pA 2 0), (14, .one (.e (.sl 0 0 ((if 20 < (lI x1) then 20 else (lI x1)).toNat)))), (15, I (((if 20 < (lI x1) then 20 else (lI x1)).toNat : Nat) : Int)), (16, I i248), (20, S (x1.getD i248.toNat []))], [sR x1, .cells [.sl 3 0 k243, .sl 4 0 k244], .cells [.sp 2 53, .bsl 5 x247.length], nO x245, lO x246, uO x247]⟩ (bindO_e h (fun x310 hc311 h => (Wc [] rfl rfl rfl Tryz.func31 rfl (strings_Split_ok (x1.getD i248.toNat []) [32] x310 hc311) (trivial) rfl (Wb [0, 1, 2, 6, 3, 4, 5] [3, 4, 14, 15, 16, 21] ⟨[(3, pA 1 0), (4, pA 2 0), (14, .one (.e (.sl 0 0 ((if 20 < (lI x1) then 20 else (lI x1)).toNat)))), (15, I (((if 20 < (lI x1) then 20 else (lI x1)).toNat : Nat) : Int)), (16, I i248), (21, sF 3 x310)], [sR x1, .cells [.sl 4 0 k243, .sl 5 0 k244], .cells [.sp 2 53, .bsl 6 x247.length], sO x310, nO x245, lO x246, uO x247]⟩ (bindO_e h (fun v324 hc317 h => ?_))))))))))))))))))))
     obtain ⟨k312, k313, x314, x315, s316⟩ := v324
     refine Wc [.own 1, .own 4, .own 5, .ro 3] rfl rfl rfl Tryz.func30 rfl (impl_session_execute_ok n x245 k243 x246 k244 x310 k312 k313 x314 x315 s316 hc317) (aI (trivial) (aI (trivial) (aI (trivial) (aI (aI rfl rfl) (trivial))))) rfl (Wb [0, 1, 2, 7, 8, 6] [3, 4, 14, 15, 16, 22] ⟨[(3, pA 1 0), (4, pA 2 0), (14, .one (.e (.sl 0 0 ((if 20 < (lI x1) then 20 else (lI x1)).toNat)))), (15, I (((if 20 < (lI x1) then 20 else (lI x1)).toNat : Nat) : Int)), (16, I i248), (22, S s316)], [sR x1, .cells [.sl 3 0 k312, .sl 4 0 k313], .cells [.sp 2 53, .bsl 5 x247.length], nO x314, lO x315, uO x247]⟩ (bindO_e h (fun v323 hc320 h => ?_)))
     obtain ⟨x318, i319⟩ := v323
     refine Wc [.own 2, .own 5] rfl rfl rfl Tryz.func29 rfl (strings_Builder_WriteString_ok x247 s316 x318 i319 hc320) (aI (trivial) (aI (trivial) (trivial))) rfl (Wb [0, 1, 2, 3, 4, 6] [3, 4, 14, 15, 16] ⟨[(3, pA 1 0), (4, pA 2 0), (14, .one (.e (.sl 0 0 ((if 20 < (lI x1) then 20 else (lI x1)).toNat)))), (15, I (((if 20 < (lI x1) then 20 else (lI x1)).toNat : Nat) : Int)), (16, I i248)], [sR x1, .cells [.sl 3 0 k312, .sl 4 0 k313], .cells [.sp 2 53, .bsl 5 x318.length], nO x314, lO x315, uO x318]⟩ (Wnt ((W_region (bindO_e h (fun x321 hc322 h => (Wc [.own 2, .own 5] rfl rfl rfl Tryz.func32 rfl (strings_Builder_WriteByte_ok x318 10 x321 hc322) (aI (trivial) (aI (trivial) (trivial))) rfl (Wb [0, 1, 2, 3, 4, 6] [3, 4, 14, 15, 16] ⟨[(3, pA 1 0), (4, pA 2 0), (14, .one (.e (.sl 0 0 ((if 20 < (lI x1) then 20 else (lI x1)).toNat)))), (15, I (((if 20 < (lI x1) then 20 else (lI x1)).toNat : Nat) : Int)), (16, I i248)], [sR x1, .cells [.sl 3 0 k312, .sl 4 0 k313], .cells [.sp 2 53, .bsl 5 x321.length], nO x314, lO x315, uO x321]⟩ (WO_nil rfl (blockS_n (thenS_n (W_region (Wp 2 [0, 1, 2, 3, 4, 5] [3, 4, 14, 15, 16] T2 ⟨[(3, pA 1 0), (4, pA 2 0), (14, .one (.e (.sl 0 0 ((if 20 < (lI x1) then 20 else (lI x1)).toNat)))), (15, I (((if 20 < (lI x1) then 20 else (lI x1)).toNat : Nat) : Int)), (16, I (w64 (i248 + 1)))], [sR x1, .cells [.sl 3 0 k312, .sl 4 0 k313], .cells [.sp 2 53, .bsl 5 x321.length], nO x314, lO x315, uO x321]⟩ t2 (Wnt (?_)))))))))))))))
     exact ih _ _ _ _ _ _ h
    ·refine Ww [0, 2, 5] [4] ⟨[(4, pA 1 0)], [sR x1, .cells [.sp 1 53, .bsl 2 x247.length], uO x247]⟩ (W_exit (thenS_e (thenS_e ?_)))
     cases h
     exact aI rfl rfl

def impl_RunSession (n : Nat) (x1 : List Str) : Option (Str) :=
 guardO (0 ≤ (if 20 < ((x1.length : Nat) : Int) then 20 else ((x1.length : Nat) : Int)) ∧ (if 20 < ((x1.length : Nat) : Int) then 20 else ((x1.length : Nat) : Int)) ≤ ((x1.length : Nat) : Int)) <|
 bindO (iteO (decide (0 < (((if 20 < ((x1.length : Nat) : Int) then 20 else ((x1.length : Nat) : Int)).toNat : Nat) : Int)))
 (guardO (0 ≤ (0 : Int) ∧ (0 : Int) < (((if 20 < ((x1.length : Nat) : Int) then 20 else ((x1.length : Nat) : Int)).toNat : Nat) : Int)) <|
 bindO (strings_Split (x1.getD 0 []) [32]) fun x230 =>
 bindO (impl_session_execute n [(⟨(-1), [], 0⟩ : Nod)] ([(⟨(-1), [], 0⟩ : Nod)].length) ([] : List Lck) (([] : List Lck).length) x230) fun (k232, k233, x234, x235, s236) =>
 bindO (strings_Builder_WriteString ([] : List Int) s236) fun (x238, i239) =>
 bindO (strings_Builder_WriteByte x238 10) fun x241 =>
 bindO (impl_RunSession_L1 x1 n k232 k233 x234 x235 x241 (w64 (0 + 1))) fun x289 =>
 some x289)
 (some ([] : List Int))) fun x209 =>
 bindO (strings_Builder_String x209) fun (k328, s329) =>
 some s329

theorem impl_RunSession_ok (n : Nat) (x1 : List Str) (s125 : Str) (h : impl_RunSession n x1 = some s125) : FOk EE 11 [sF 0 x1] [sR x1] (S s125) [sR x1] := by
  unfold impl_RunSession at h
  refine FOk_of_W 27 1 Tryz.func11 rfl rfl (Nat.le_of_ble_eq_true rfl) rfl (fun w X θ => ?_)
  refine Wsr ((Ws 1 [0] [0] ⟨[(0, sF 0 x1)], [sR x1]⟩ (Wnt ((W_seq (W_region ?_))))))
  refine Wp 5 [0, 2, 1] [0, 3] T3 ⟨[(0, sF 0 x1), (3, pA 1 0)], [sR x1, .cells [.sl 2 0 ([(⟨(-1), [], 0⟩ : Nod)].length), .nsl], .row .nod [(⟨(-1), [], 0⟩ : Nod)] true]⟩ t3 (Wnt ((Wsr ((Wp 1 [0, 1, 3, 2] [0, 3, 4] T2 ⟨[(0, sF 0 x1), (3, pA 1 0), (4, pA 2 0)], [sR x1, .cells [.sl 3 0 ([(⟨(-1), [], 0⟩ : Nod)].length), .nsl], .cells [.sp 2 53, .nsl], .row .nod [(⟨(-1), [], 0⟩ : Nod)] true]⟩ t2 (WO_bld 2 rfl ?_))))))
  refine Wnt ((W_seq (Wsr ((guardO_e h (fun hg126 h => (Wp 7 [0, 1, 2, 3, 4] [3, 4, 14, 15, 16] (True ∧ (True ∧ ((0 ≤ (if 20 < (lI x1) then 20 else (lI x1)) ∧ (if 20 < (lI x1) then 20 else (lI x1)) ≤ (lI x1)) ∧ T2))) ⟨[(3, pA 1 0), (4, pA 2 0), (14, .one (.e (.sl 0 0 ((if 20 < (lI x1) then 20 else (lI x1)).toNat)))), (15, I (((if 20 < (lI x1) then 20 else (lI x1)).toNat : Nat) : Int)), (16, I 0)], [sR x1, .cells [.sl 3 0 ([(⟨(-1), [], 0⟩ : Nod)].length), .nsl], .cells [.sp 2 53, .bsl 4 (([] : List Int).length)], .row .nod [(⟨(-1), [], 0⟩ : Nod)] true, uO ([] : List Int)]⟩ ⟨trivial, trivial, hg126, trivial, trivial⟩ ?_)))))))
  refine Wnt ((bindO_e h (fun x209 hx209 h => (W_cut (Q' := fun (e : Exit) (s : St) => e = .normal ∧ s = ⟨[(4, pA 1 0)], [sR x1, .cells [.sp 1 53, .bsl 2 x209.length], uO x209]⟩) ?_ ?_))))
  ·refine W_block (W_loop (WL_round (Wsr ((Wp 1 [0, 1, 2, 3, 4] [3, 4, 14, 15, 16, 17] T2 ⟨[(3, pA 1 0), (4, pA 2 0), (14, .one (.e (.sl 0 0 ((if 20 < (lI x1) then 20 else (lI x1)).toNat)))), (15, I (((if 20 < (lI x1) then 20 else (lI x1)).toNat : Nat) : Int)), (16, I 0), (17, B (decide (0 < (((if 20 < (lI x1) then 20 else (lI x1)).toNat : Nat) : Int))))], [sR x1, .cells [.sl 3 0 ([(⟨(-1), [], 0⟩ : Nod)].length), .nsl], .cells [.sp 2 53, .bsl 4 (([] : List Int).length)], .row .nod [(⟨(-1), [], 0⟩ : Nod)] true, uO ([] : List Int)]⟩ t2 (Wnt ((W_seq (iteO_e hx209 (fun hb212 hx209 => W_true rfl hb212 ?_) (fun hb212 hx209 => W_false rfl hb212 ?_))))))))))
   ·refine Ww [0, 1, 2, 3, 4] [3, 4, 14, 15, 16] ⟨[(3, pA 1 0), (4, pA 2 0), (14, .one (.e (.sl 0 0 ((if 20 < (lI x1) then 20 else (lI x1)).toNat)))), (15, I (((if 20 < (lI x1) then 20 else (lI x1)).toNat : Nat) : Int)), (16, I 0)], [sR x1, .cells [.sl 3 0 ([(⟨(-1), [], 0⟩ : Nod)].length), .nsl], .cells [.sp 2 53, .bsl 4 (([] : List Int).length)], .row .nod [(⟨(-1), [], 0⟩ : Nod)] true, uO ([] : List Int)]⟩ (W_skip (thenS_n (W_seq (W_block (Wsr ((guardO_e hx209 (fun hg229 hx209 => (Wp 3 [0, 1, 2, 3, 4] [3, 4, 6, 14, 15, 16] ((0 ≤ (0 : Int) ∧ (0 : Int) < (((if 20 < (lI x1) then 20 else (lI x1)).toNat : Nat) : Int)) ∧ T2) ⟨[(3, pA 1 0), (4, pA 2 0), (6, S (x1.getD 0 [])), (14, .one (.e (.sl 0 0 ((if 20 < (lI x1) then 20 else (lI x1)).toNat)))), (15, I (((if 20 < (lI x1) then 20 else (lI x1)).toNat : Nat) : Int)), (16, I 0)], [sR x1, .cells [.sl 3 0 ([(⟨(-1), [], 0⟩ : Nod)].length), .nsl], .cells [.sp 2 53, .bsl 4 (([] : List Int).length)], .row .nod [(⟨(-1), [], 0⟩ : Nod)] true, uO ([] : List Int)]⟩ ⟨hg229, trivial, trivial⟩ (Wnt ((Wsr ((Ws 1 [0, 1, 2, 3, 4] [3, 4, 14, 15, 16, 20] ⟨[(3, pA 1 0), (4, pA 2 0), (14, .one (.e (.sl 0 0 ((if 20 < (lI x1) then 20 else (lI x1)).toNat)))), (15, I (((if 20 < (lI x1) then 20 else (lI x1)).toNat : Nat) : Int)), (16, I 0), (20, S (x1.getD 0 []))], [sR x1, .cells [.sl 3 0 ([(⟨(-1), [], 0⟩ : Nod)].length), .nsl], .cells [.sp 2 53, .bsl 4 (([] : List Int).length)], .row .nod [(⟨(-1), [], 0⟩ : Nod)] true, uO ([] : List Int)]⟩ (bindO_e hx209 (fun x230 hc231 hx209 => (Wc [] rfl rfl rfl Tryz.func31 rfl (strings_Split_ok (x1.getD 0 []) [32] x230 hc231) (trivial) rfl (Wb [0, 1, 2, 5, 3, 4] [3, 4, 14, 15, 16, 21] ⟨[(3, pA 1 0), (4, pA 2 0), (14, .one (.e (.sl 0 0 ((if 20 < (lI x1) then 20 else (lI x1)).toNat)))), (15, I (((if 20 < (lI x1) then 20 else (lI x1)).toNat : Nat) : Int)), (16, I 0), (21, sF 3 x230)], [sR x1, .cells [.sl 4 0 ([(⟨(-1), [], 0⟩ : Nod)].length), .nsl], .cells [.sp 2 53, .bsl 5 (([] : List Int).length)], sO x230, .row .nod [(⟨(-1), [], 0⟩ : Nod)] true, uO ([] : List Int)]⟩ (bindO_e hx209 (fun v327 hc237 hx209 => ?_))))))))))))))))))))
    obtain ⟨k232, k233, x234, x235, s236⟩ := v327
    refine WO_nilcell 1 1 .lck rfl (Wc [.own 1, .own 4, .own 6, .ro 3] rfl rfl rfl Tryz.func30 rfl (impl_session_execute_ok n [(⟨(-1), [], 0⟩ : Nod)] ([(⟨(-1), [], 0⟩ : Nod)].length) ([] : List Lck) (([] : List Lck).length) x230 k232 k233 x234 x235 s236 hc237) (aI (trivial) (aI (trivial) (aI (trivial) (aI (aI rfl rfl) (trivial))))) rfl (Wb [0, 1, 2, 7, 8, 5] [3, 4, 14, 15, 16, 22] ⟨[(3, pA 1 0), (4, pA 2 0), (14, .one (.e (.sl 0 0 ((if 20 < (lI x1) then 20 else (lI x1)).toNat)))), (15, I (((if 20 < (lI x1) then 20 else (lI x1)).toNat : Nat) : Int)), (16, I 0), (22, S s236)], [sR x1, .cells [.sl 3 0 k232, .sl 4 0 k233], .cells [.sp 2 53, .bsl 5 (([] : List Int).length)], nO x234, lO x235, uO ([] : List Int)]⟩ (bindO_e hx209 (fun v326 hc240 hx209 => ?_))))
    obtain ⟨x238, i239⟩ := v326
    refine Wc [.own 2, .own 5] rfl rfl rfl Tryz.func29 rfl (strings_Builder_WriteString_ok ([] : List Int) s236 x238 i239 hc240) (aI (trivial) (aI (trivial) (trivial))) rfl (Wb [0, 1, 2, 3, 4, 6] [3, 4, 14, 15, 16] ⟨[(3, pA 1 0), (4, pA 2 0), (14, .one (.e (.sl 0 0 ((if 20 < (lI x1) then 20 else (lI x1)).toNat)))), (15, I (((if 20 < (lI x1) then 20 else (lI x1)).toNat : Nat) : Int)), (16, I 0)], [sR x1, .cells [.sl 3 0 k232, .sl 4 0 k233], .cells [.sp 2 53, .bsl 5 x238.length], nO x234, lO x235, uO x238]⟩ (Wnt ((W_region (bindO_e hx209 (fun x241 hc242 hx209 => (Wc [.own 2, .own 5] rfl rfl rfl Tryz.func32 rfl (strings_Builder_WriteByte_ok x238 10 x241 hc242) (aI (trivial) (aI (trivial) (trivial))) rfl (Wb [0, 1, 2, 3, 4, 6] [3, 4, 14, 15, 16] ⟨[(3, pA 1 0), (4, pA 2 0), (14, .one (.e (.sl 0 0 ((if 20 < (lI x1) then 20 else (lI x1)).toNat)))), (15, I (((if 20 < (lI x1) then 20 else (lI x1)).toNat : Nat) : Int)), (16, I 0)], [sR x1, .cells [.sl 3 0 k232, .sl 4 0 k233], .cells [.sp 2 53, .bsl 5 x241.length], nO x234, lO x235, uO x241]⟩ (WO_nil rfl (blockS_n (thenS_n (W_region (Wp 2 [0, 1, 2, 3, 4, 5] [3, 4, 14, 15, 16] T2 ⟨[(3, pA 1 0), (4, pA 2 0), (14, .one (.e (.sl 0 0 ((if 20 < (lI x1) then 20 else (lI x1)).toNat)))), (15, I (((if 20 < (lI x1) then 20 else (lI x1)).toNat : Nat) : Int)), (16, I (w64 (0 + 1)))], [sR x1, .cells [.sl 3 0 k232, .sl 4 0 k233], .cells [.sp 2 53, .bsl 5 x241.length], nO x234, lO x235, uO x241]⟩ t2 (Wnt ((bindO_e hx209 (fun x289 hx289 hx209 => (WL_cut (impl_RunSession_L1_ok w X θ x1 x289 n k232 k233 x234 x235 x241 (w64 (0 + 1)) hx289) ?_))))))))))))))))))
    rintro _ _ ⟨rfl, rfl⟩
    refine blockS_y ?_
    cases hx209
    exact aI rfl rfl
   ·refine Ww [0, 2, 4] [4] ⟨[(4, pA 1 0)], [sR x1, .cells [.sp 1 53, .bsl 2 (([] : List Int).length)], uO ([] : List Int)]⟩ (W_exit (thenS_e (thenS_e (blockS_y ?_))))
    cases hx209
    exact aI rfl rfl
  ·rintro _ _ ⟨rfl, rfl⟩
   refine thenS_n (Wsr ((bindO_e h (fun v331 hc330 h => ?_))))
   obtain ⟨k328, s329⟩ := v331
   refine Wc [.own 1, .own 2] rfl rfl rfl Tryz.func33 rfl (strings_Builder_String_ok x209 k328 s329 hc330) (aI (trivial) (aI (trivial) (trivial))) rfl (Ws 1 [0] [2] ⟨[(2, S s329)], [sR x1]⟩ (Wnt ((W_ret ?_))))
   cases h
   exact ⟨[0], True, by kernel_rfl, trivial⟩

/- spec.splitAt -/
def spec_splitAt_L1 (s1 : Str) (i2 : Int) : Nat → (List Str) → Int → Int → Option (((List Str) × Int))
| 0, _, _, _ => none
| n + 1, x97, i98, i99 =>
 iteO (decide (i99 < ((s1.length : Nat) : Int)))
 (guardO (0 ≤ i99 ∧ i99 < ((s1.length : Nat) : Int)) <|
 bindO (iteO (decide (((s1.getD i99.toNat 0).toNat : Int) = i2))
 (guardO (0 ≤ i98 ∧ i98 ≤ i99 ∧ i99 ≤ ((s1.length : Nat) : Int)) <|
 guardO (0 = 0 ∧ x97.length = x97.length ∧ x97.length + (([((s1.take i99.toNat).drop i98.toNat)].drop 0).take ([((s1.take i99.toNat).drop i98.toNat)].length)).length ≤ 1099511627776) <|
 some ((x97 ++ (([((s1.take i99.toNat).drop i98.toNat)].drop 0).take ([((s1.take i99.toNat).drop i98.toNat)].length))), (w64 (i99 + 1))))
 (some (x97, i98))) fun v137 =>
 match v137 with
 | (x135, i136) => (spec_splitAt_L1 s1 i2 n x135 i136 (w64 (i99 + 1)))
)
 (some (x97, i98))

theorem spec_splitAt_L1_ok (w : World) (X : Nat → Prop) (θ : List Loc) (s1 : Str) (i2 : Int) (v : ((List Str) × Int)) : ∀ (n : Nat) (x97 : List Str) (i98 : Int) (i99 : Int), spec_splitAt_L1 s1 i2 n x97 i98 i99 = some v → WL EE ⟨w, X, θ, 35, 0⟩ (subC [1, 1, 1, 0, 1, 4, 4] (bodyC Tryz.f41)) (fun (e : Exit) (s : St) => (match v with | (x119, i120) => e = .exit 0 ∧ s = ⟨[(0, S s1), (5, sF 0 x119), (6, I i120)], [sO x119]⟩ : Prop)) ⟨[(0, S s1), (1, U i2), (5, sF 0 x97), (6, I i98), (7, I i99)], [sO x97]⟩ := by
  intro n
  induction n with
  | zero => intro _ _ _ h; exact none_e h
  | succ n ih =>
    intro x97 i98 i99 h
    rw [spec_splitAt_L1] at h
    refine WL_round ?_
    refine W_seq (Wsr ((Wp 4 [0] [0, 1, 5, 6, 7, 12] T3 ⟨[(0, S s1), (1, U i2), (5, sF 0 x97), (6, I i98), (7, I i99), (12, B (decide (i99 < (lI s1))))], [sO x97]⟩ t3 (Wnt ((iteO_e h (fun hb123 h => W_true rfl hb123 ?_) (fun hb123 h => W_false rfl hb123 ?_)))))))
    ·refine Ww [0] [0, 1, 5, 6, 7] ⟨[(0, S s1), (1, U i2), (5, sF 0 x97), (6, I i98), (7, I i99)], [sO x97]⟩ (W_skip (thenS_n (W_seq (W_block (Wsr ((guardO_e h (fun hg131 h => (Wp 5 [0] [0, 1, 5, 6, 7, 19] ((0 ≤ i99 ∧ i99 < (lI s1)) ∧ T2) ⟨[(0, S s1), (1, U i2), (5, sF 0 x97), (6, I i98), (7, I i99), (19, B (decide (((s1.getD i99.toNat 0).toNat : Int) = i2)))], [sO x97]⟩ ⟨hg131, trivial, trivial⟩ (Wnt ((bindO_e h (fun v137 hv137 h => (W_cut (Q' := fun (e : Exit) (s : St) => (match v137 with | (x135, i136) => e = .normal ∧ s = ⟨[(0, S s1), (1, U i2), (5, sF 0 x135), (6, I i136), (7, I i99)], [sO x135]⟩ : Prop)) ?_ ?_))))))))))))))
     ·refine iteO_e hv137 (fun hb138 hv137 => W_true rfl hb138 ?_) (fun hb138 hv137 => W_false rfl hb138 ?_)
      ·refine Wsr ((guardO_e hv137 (fun hg139 hv137 => (guardO_e hv137 (fun hg140 hv137 => (Wp 8 [2] [0, 1, 5, 7] ((0 ≤ i98 ∧ i98 ≤ i99 ∧ i99 ≤ (lI s1)) ∧ ((0 = 0 ∧ x97.length = x97.length ∧ x97.length + (([((s1.take i99.toNat).drop i98.toNat)].drop 0).take ([((s1.take i99.toNat).drop i98.toNat)].length)).length ≤ 1099511627776) ∧ True)) ⟨[(0, S s1), (1, U i2), (5, .one (.e (.sl 0 0 ((x97 ++ (([((s1.take i99.toNat).drop i98.toNat)].drop 0).take ([((s1.take i99.toNat).drop i98.toNat)].length))).length)))), (7, I i99)], [.row .str (x97 ++ (([((s1.take i99.toNat).drop i98.toNat)].drop 0).take ([((s1.take i99.toNat).drop i98.toNat)].length))) true]⟩ ⟨hg139, hg140, trivial⟩ (Wnt ((W_region (Wp 3 [0] [0, 1, 5, 6, 7] T2 ⟨[(0, S s1), (1, U i2), (5, .one (.e (.sl 0 0 ((x97 ++ (([((s1.take i99.toNat).drop i98.toNat)].drop 0).take ([((s1.take i99.toNat).drop i98.toNat)].length))).length)))), (6, I (w64 (i99 + 1))), (7, I i99)], [.row .str (x97 ++ (([((s1.take i99.toNat).drop i98.toNat)].drop 0).take ([((s1.take i99.toNat).drop i98.toNat)].length))) true]⟩ t2 (WO_nil rfl ?_)))))))))))
       cases hv137
       exact aI rfl rfl
      ·refine Ww [0] [0, 1, 5, 6, 7] ⟨[(0, S s1), (1, U i2), (5, sF 0 x97), (6, I i98), (7, I i99)], [sO x97]⟩ (W_skip ?_)
       cases hv137
       exact aI rfl rfl
     ·obtain ⟨x135, i136⟩ := v137
      rintro _ _ ⟨rfl, rfl⟩
      refine blockS_n (thenS_n (W_region (Wp 3 [0] [0, 1, 5, 6, 7] T2 ⟨[(0, S s1), (1, U i2), (5, sF 0 x135), (6, I i136), (7, I (w64 (i99 + 1)))], [sO x135]⟩ t2 (Wnt (?_)))))
      exact ih _ _ _ h
    ·refine Ww [0] [0, 5, 6] ⟨[(0, S s1), (5, sF 0 x97), (6, I i98)], [sO x97]⟩ (W_exit (thenS_e (thenS_e ?_)))
     cases h
     exact aI rfl rfl

def spec_splitAt (n : Nat) (s1 : Str) (i2 : Int) : Option ((List Str)) :=
 bindO (spec_splitAt_L1 s1 i2 n ([] : List Str) 0 0) fun v141 =>
 match v141 with
 | (x119, i120) => (guardO (0 ≤ i120 ∧ i120 ≤ ((s1.length : Nat) : Int)) <|
 guardO (0 = 0 ∧ x119.length = x119.length ∧ x119.length + (([(s1.drop i120.toNat)].drop 0).take ([(s1.drop i120.toNat)].length)).length ≤ 1099511627776) <|
 some (x119 ++ (([(s1.drop i120.toNat)].drop 0).take ([(s1.drop i120.toNat)].length))))


theorem spec_splitAt_ok (n : Nat) (s1 : Str) (i2 : Int) (x71 : List Str) (h : spec_splitAt n s1 i2 = some x71) : FOk EE 41 [S s1, U i2] [] (sF 0 x71) [sO x71] := by
  unfold spec_splitAt at h
  refine FOk_of_W 35 0 Tryz.func41 rfl rfl (Nat.le_of_ble_eq_true rfl) rfl (fun w X θ => ?_)
  refine Wsr ((Ws 1 [] [0, 1] ⟨[(0, S s1), (1, U i2)], []⟩ (Wnt ((W_seq (W_region ?_))))))
  refine Ws 2 [0] [0, 1, 5] ⟨[(0, S s1), (1, U i2), (5, .one (.e (.sl 0 0 (([] : List Str).length))))], [sO ([] : List Str)]⟩ (Wnt ((Wsr ((Ws 1 [0] [0, 1, 5, 6] ⟨[(0, S s1), (1, U i2), (5, .one (.e (.sl 0 0 (([] : List Str).length)))), (6, I 0)], [sO ([] : List Str)]⟩ (WO_nil rfl ?_))))))
  refine thenS_n (W_seq (Wsr ((Ws 1 [0] [0, 1, 5, 6, 7] ⟨[(0, S s1), (1, U i2), (5, .one (.e (.sl 0 0 (([] : List Str).length)))), (6, I 0), (7, I 0)], [sO ([] : List Str)]⟩ (Wnt (?_))))))
  refine W_block (W_loop (bindO_e h (fun v141 hv141 h => (WL_cut (spec_splitAt_L1_ok w X θ s1 i2 v141 n ([] : List Str) 0 0 hv141) ?_))))
  obtain ⟨x119, i120⟩ := v141
  rintro _ _ ⟨rfl, rfl⟩
  refine blockS_y (thenS_n (Wsr ((guardO_e h (fun hg142 h => (guardO_e h (fun hg143 h => (Wp 7 [2] [4] ((0 ≤ i120 ∧ i120 ≤ (lI s1)) ∧ ((0 = 0 ∧ x119.length = x119.length ∧ x119.length + (([(s1.drop i120.toNat)].drop 0).take ([(s1.drop i120.toNat)].length)).length ≤ 1099511627776) ∧ True)) ⟨[(4, .one (.e (.sl 0 0 ((x119 ++ (([(s1.drop i120.toNat)].drop 0).take ([(s1.drop i120.toNat)].length))).length))))], [.row .str (x119 ++ (([(s1.drop i120.toNat)].drop 0).take ([(s1.drop i120.toNat)].length))) true]⟩ ⟨hg142, hg143, trivial⟩ ?_))))))))
  refine Wnt ((W_ret ?_))
  cases h
  exact ⟨[0], True, by kernel_rfl, trivial⟩

/- spec.inRange -/
def spec_inRange (i1 : Int) (i2 : Int) (i3 : Int) : Bool :=
((decide (i2 ≤ i1)) && (decide (i1 ≤ i3)))

theorem spec_inRange_ok (i1 : Int) (i2 : Int) (i3 : Int) : FOk EE 71 [I i1, I i2, I i3] [] (B (spec_inRange i1 i2 i3)) [] := by
  refine FOk_of_W 15 0 Tryz.func71 rfl rfl (Nat.le_of_ble_eq_true rfl) rfl (fun w X θ => ?_)
  refine Wsr ((Ws 1 [] [0, 1, 2] ⟨[(0, I i1), (1, I i2), (2, I i3)], []⟩ (Wnt ((W_seq (W_region ?_))))))
  refine Wp 4 [] [0, 2, 10] T2 ⟨[(0, I i1), (2, I i3), (10, B (decide (i2 ≤ i1)))], []⟩ t2 (WO_thru ⟨[(6, B ((decide (i2 ≤ i1)) && (decide (i1 ≤ i3))))], []⟩ ?_ ?_)
  ·refine WO_if 10 rfl (fun hb10 => ?_) (fun hb10 => ?_)
   ·refine Wp 5 [] [6] T2 ⟨[(6, B (decide (i1 ≤ i3)))], []⟩ t2 ?_
    exact WO_nil rfl ⟨rfl, by first | rfl | (rw [hb10]; first | done | rfl)⟩
   ·refine Ws 5 [] [6] ⟨[(6, B false)], []⟩ ?_
    exact WO_nil rfl ⟨rfl, by first | rfl | (rw [hb10]; first | done | rfl)⟩
  ·refine thenS_n (W_ret ?_)
   exact ⟨[], True, by kernel_rfl, trivial⟩

/- spec.parseInt -/
def spec_parseInt_L1 (s1 : Str) : Nat → Int → Int → Option ((Unit) ⊕ (Int))
| 0, _, _ => none
| n + 1, i167, i168 =>
 iteO ((decide (i168 < ((s1.length : Nat) : Int))) && (decide (((s1.length : Nat) : Int) ≤ 5)))
 (guardO (0 ≤ i168 ∧ i168 < ((s1.length : Nat) : Int)) <|
 bindO (iteO (spec_inRange (w64 ((s1.getD i168.toNat 0).toNat : Int)) 48 57)
 (guardO (0 ≤ i168 ∧ i168 < ((s1.length : Nat) : Int)) <|
 some (.inl (w64 ((w64 ((w64 (10 * i167)) + (w64 ((s1.getD i168.toNat 0).toNat : Int)))) - 48))))
 (bindO (iteO (decide (0 < i168))
 (some true)
 (guardO (0 ≤ i168 ∧ i168 < ((s1.length : Nat) : Int)) <|
 some (!decide (((s1.getD i168.toNat 0).toNat : Int) = 45)))) fun b239 =>
 iteO b239
 (some (.inr ()))
 (some (.inl i167))) : Option ((Int) ⊕ (Unit))) fun v234 =>
 match v234 with
 | (.inl i233) => (spec_parseInt_L1 s1 n i233 (w64 (i168 + 1)))
 | (.inr _) => (some (.inl ()))
)
 (some (.inr i167))

theorem spec_parseInt_L1_ok (w : World) (X : Nat → Prop) (θ : List Loc) (s1 : Str) (v : (Unit) ⊕ (Int)) : ∀ (n : Nat) (i167 : Int) (i168 : Int), spec_parseInt_L1 s1 n i167 i168 = some v → WL EE ⟨w, X, θ, 63, 0⟩ (subC [1, 1, 0, 1, 4, 4] (bodyC Tryz.f42)) (fun (e : Exit) (s : St) => (match v with | (.inl _) => e = .ret ∧ s = ⟨[(2, I 0), (3, B false)], []⟩ | (.inr i202) => e = .exit 0 ∧ s = ⟨[(0, S s1), (4, I i202)], []⟩ : Prop)) ⟨[(0, S s1), (4, I i167), (5, I i168)], []⟩ := by
  intro n
  induction n with
  | zero => intro _ _ h; exact none_e h
  | succ n ih =>
    intro i167 i168 h
    rw [spec_parseInt_L1] at h
    refine WL_round ?_
    refine W_seq (Wsr ((Wp 5 [] [0, 4, 5, 10] T3 ⟨[(0, S s1), (4, I i167), (5, I i168), (10, B (decide (i168 < (lI s1))))], []⟩ t3 (WO_thru ⟨[(0, S s1), (4, I i167), (5, I i168), (14, B ((decide (i168 < (lI s1))) && (decide ((lI s1) ≤ 5))))], []⟩ ?_ ?_))))
    ·refine WO_if 10 rfl (fun hb206 => ?_) (fun hb206 => ?_)
     ·refine Wp 4 [] [0, 4, 5, 14] T3 ⟨[(0, S s1), (4, I i167), (5, I i168), (14, B (decide ((lI s1) ≤ 5)))], []⟩ t3 ?_
      exact WO_nil rfl ⟨rfl, by first | rfl | (rw [hb206]; first | done | rfl)⟩
     ·refine Ws 4 [] [0, 4, 5, 14] ⟨[(0, S s1), (4, I i167), (5, I i168), (14, B false)], []⟩ ?_
      exact WO_nil rfl ⟨rfl, by first | rfl | (rw [hb206]; first | done | rfl)⟩
    ·refine thenS_n (iteO_e h (fun hb208 h => W_true rfl hb208 ?_) (fun hb208 h => W_false rfl hb208 ?_))
     ·refine Ww [] [0, 4, 5] ⟨[(0, S s1), (4, I i167), (5, I i168)], []⟩ (W_skip (thenS_n (W_seq (W_block (Wsr ((guardO_e h (fun hg222 h => (Wp 4 [] [0, 4, 5, 20] ((0 ≤ i168 ∧ i168 < (lI s1)) ∧ T2) ⟨[(0, S s1), (4, I i167), (5, I i168), (20, I (w64 ((s1.getD i168.toNat 0).toNat : Int)))], []⟩ ⟨hg222, trivial, trivial⟩ (Wc [] rfl rfl rfl Tryz.func71 rfl (spec_inRange_ok (w64 ((s1.getD i168.toNat 0).toNat : Int)) 48 57) (trivial) rfl (Wb [] [0, 4, 5, 21] ⟨[(0, S s1), (4, I i167), (5, I i168), (21, B (spec_inRange (w64 ((s1.getD i168.toNat 0).toNat : Int)) 48 57))], []⟩ (Wnt ((bindO_e h (fun v234 hv234 h => (W_cut (Q' := fun (e : Exit) (s : St) => (match v234 with | (.inl i233) => e = .normal ∧ s = ⟨[(0, S s1), (4, I i233), (5, I i168)], []⟩ | (.inr _) => e = .ret ∧ s = ⟨[(2, I 0), (3, B false)], []⟩ : Prop)) ?_ ?_))))))))))))))))
      ·refine iteO_e hv234 (fun hb235 hv234 => W_true rfl hb235 ?_) (fun hb235 hv234 => W_false rfl hb235 ?_)
       ·refine W_region (guardO_e hv234 (fun hg236 hv234 => (Wp 9 [] [0, 4, 5] (True ∧ ((0 ≤ i168 ∧ i168 < (lI s1)) ∧ T4)) ⟨[(0, S s1), (4, I (w64 ((w64 ((w64 (10 * i167)) + (w64 ((s1.getD i168.toNat 0).toNat : Int)))) - 48))), (5, I i168)], []⟩ ⟨trivial, hg236, trivial, trivial, trivial, trivial⟩ (WO_nil rfl ?_))))
        cases hv234
        exact aI rfl rfl
       ·refine Wsr ((Wp 3 [] [0, 4, 5, 32] T2 ⟨[(0, S s1), (4, I i167), (5, I i168), (32, B (decide (0 < i168)))], []⟩ t2 (bindO_e hv234 (fun b239 hv240 hv234 => (WO_thru ⟨[(0, S s1), (4, I i167), (5, I i168), (37, B b239)], []⟩ ?_ ?_)))))
        ·refine iteO_e hv240 (fun hb241 hv240 => WO_known 32 true rfl hb241 ?_) (fun hb241 hv240 => WO_known 32 false rfl hb241 ?_)
         ·refine Ws 5 [] [0, 4, 5, 37] ⟨[(0, S s1), (4, I i167), (5, I i168), (37, B true)], []⟩ ?_
          cases hv240
          exact WO_nil rfl ⟨rfl, rfl⟩
         ·refine guardO_e hv240 (fun hg242 hv240 => (Wp 5 [] [0, 4, 5, 37] ((0 ≤ i168 ∧ i168 < (lI s1)) ∧ T2) ⟨[(0, S s1), (4, I i167), (5, I i168), (37, B (!decide (((s1.getD i168.toNat 0).toNat : Int) = 45)))], []⟩ ⟨hg242, trivial, trivial⟩ ?_))
          cases hv240
          exact WO_nil rfl ⟨rfl, rfl⟩
        ·refine thenS_n (iteO_e hv234 (fun hb244 hv234 => W_true rfl hb244 ?_) (fun hb244 hv234 => W_false rfl hb244 ?_))
         ·refine Wsr ((Ws 2 [] [2, 3] ⟨[(2, I 0), (3, B false)], []⟩ (Wnt ((W_ret ?_)))))
          cases hv234
          exact aI rfl rfl
         ·refine Ww [] [0, 4, 5] ⟨[(0, S s1), (4, I i167), (5, I i168)], []⟩ (W_skip ?_)
          cases hv234
          exact aI rfl rfl
      ·rcases v234 with i233 | _
       ·rintro _ _ ⟨rfl, rfl⟩
        refine blockS_n (thenS_n (W_region (Wp 3 [] [0, 4, 5] T2 ⟨[(0, S s1), (4, I i233), (5, I (w64 (i168 + 1)))], []⟩ t2 (Wnt (?_)))))
        exact ih _ _ h
       ·rintro _ _ ⟨rfl, rfl⟩
        refine blockS_r (thenS_r (thenS_r ?_))
        cases h
        exact aI rfl rfl
     ·refine Ww [] [0, 4] ⟨[(0, S s1), (4, I i167)], []⟩ (W_exit (thenS_e (thenS_e ?_)))
      cases h
      exact aI rfl rfl

def spec_parseInt (n : Nat) (s1 : Str) : Option (Int × Bool) :=
 bindO (spec_parseInt_L1 s1 n 0 0) fun v245 =>
 match v245 with
 | (.inl _) => (some (0, false))
 | (.inr i202) => (bindO (iteO (decide (0 < ((s1.length : Nat) : Int)))
 (guardO (0 ≤ (0 : Int) ∧ (0 : Int) < ((s1.length : Nat) : Int)) <|
 some (decide (((s1.getD ((0 : Int).toNat) 0).toNat : Int) = 45)))
 (some false)) fun b248 =>
 bindO (iteO b248
 (some (w64 (0 - i202)))
 (some i202)) fun i253 =>
 bindO (iteO (decide (((s1.length : Nat) : Int) = 0))
 (some true)
 (iteO (decide (5 < ((s1.length : Nat) : Int)))
 (some true)
 (bindO (spec_decimal n i253) fun s264 =>
 some (!decide (s264 = s1))))) fun b260 =>
 iteO b260
 (some (0, false))
 (some (i253, true)))


theorem spec_parseInt_ok (n : Nat) (s1 : Str) (i128 : Int) (b129 : Bool) (h : spec_parseInt n s1 = some (i128, b129)) : FOk EE 42 [S s1] [] (.tup [.e (cI i128), .e (cB b129)]) [] := by
  unfold spec_parseInt at h
  refine FOk_of_W 63 0 Tryz.func42 rfl rfl (Nat.le_of_ble_eq_true rfl) rfl (fun w X θ => ?_)
  refine Wsr ((Ws 2 [] [0] ⟨[(0, S s1)], []⟩ (Wnt ((W_seq (W_region ?_))))))
  refine Ws 1 [] [0, 4] ⟨[(0, S s1), (4, I 0)], []⟩ (Wnt ((W_seq (Wsr ((Ws 1 [] [0, 4, 5] ⟨[(0, S s1), (4, I 0), (5, I 0)], []⟩ ?_))))))
  refine Wnt ((W_block (W_loop (bindO_e h (fun v245 hv245 h => (WL_cut (spec_parseInt_L1_ok w X θ s1 v245 n 0 0 hv245) ?_))))))
  rcases v245 with _ | i202
  ·rintro _ _ ⟨rfl, rfl⟩
   refine blockS_r (thenS_r ?_)
   cases h
   exact ⟨[], True, by kernel_rfl, trivial⟩
  ·rintro _ _ ⟨rfl, rfl⟩
   refine blockS_y (thenS_n (W_seq (Wsr ((Wp 4 [] [0, 4, 41] T3 ⟨[(0, S s1), (4, I i202), (41, B (decide (0 < (lI s1))))], []⟩ t3 (bindO_e h (fun b248 hv249 h => (WO_thru ⟨[(0, S s1), (4, I i202), (45, B b248)], []⟩ ?_ ?_))))))))
   ·refine iteO_e hv249 (fun hb250 hv249 => WO_known 41 true rfl hb250 ?_) (fun hb250 hv249 => WO_known 41 false rfl hb250 ?_)
    ·refine guardO_e hv249 (fun hg251 hv249 => (Wp 4 [] [0, 4, 45] ((0 ≤ (0 : Int) ∧ (0 : Int) < (lI s1)) ∧ T2) ⟨[(0, S s1), (4, I i202), (45, B (decide (((s1.getD ((0 : Int).toNat) 0).toNat : Int) = 45)))], []⟩ ⟨hg251, trivial, trivial⟩ ?_))
     cases hv249
     exact WO_nil rfl ⟨rfl, rfl⟩
    ·refine Ws 4 [] [0, 4, 45] ⟨[(0, S s1), (4, I i202), (45, B false)], []⟩ ?_
     cases hv249
     exact WO_nil rfl ⟨rfl, rfl⟩
   ·refine thenS_n (bindO_e h (fun i253 hi253 h => (W_cut (Q' := fun (e : Exit) (s : St) => e = .normal ∧ s = ⟨[(0, S s1), (4, I i253)], []⟩) ?_ ?_)))
    ·refine iteO_e hi253 (fun hb255 hi253 => W_true rfl hb255 ?_) (fun hb255 hi253 => W_false rfl hb255 ?_)
     ·refine W_region (Ws 3 [] [0, 4] ⟨[(0, S s1), (4, I (w64 (0 - i202)))], []⟩ (WO_nil rfl ?_))
      cases hi253
      exact aI rfl rfl
     ·refine Ww [] [0, 4] ⟨[(0, S s1), (4, I i202)], []⟩ (W_skip ?_)
      cases hi253
      exact aI rfl rfl
    ·rintro _ _ ⟨rfl, rfl⟩
     refine thenS_n (W_seq (Wsr ((Wp 4 [] [0, 4, 51] T3 ⟨[(0, S s1), (4, I i253), (51, B (decide ((lI s1) = 0)))], []⟩ t3 (bindO_e h (fun b260 hv261 h => (WO_thru ⟨[(4, I i253), (61, B b260)], []⟩ ?_ ?_)))))))
     ·refine iteO_e hv261 (fun hb262 hv261 => WO_known 51 true rfl hb262 ?_) (fun hb262 hv261 => WO_known 51 false rfl hb262 ?_)
      ·refine Ws 10 [] [4, 61] ⟨[(4, I i253), (61, B true)], []⟩ ?_
       cases hv261
       exact WO_nil rfl ⟨rfl, rfl⟩
      ·refine Wp 5 [] [0, 4, 56] T3 ⟨[(0, S s1), (4, I i253), (56, B (decide (5 < (lI s1))))], []⟩ t3 (iteO_e hv261 (fun hb263 hv261 => WO_known 56 true rfl hb263 ?_) (fun hb263 hv261 => WO_known 56 false rfl hb263 ?_))
       ·refine Ws 5 [] [4, 61] ⟨[(4, I i253), (61, B true)], []⟩ ?_
        cases hv261
        exact WO_nil rfl ⟨rfl, rfl⟩
       ·refine Ws 1 [] [0, 4, 56, 57] ⟨[(0, S s1), (4, I i253), (56, B false), (57, I i253)], []⟩ (bindO_e hv261 (fun s264 hc265 hv261 => (Wc [] rfl rfl rfl Tryz.func24 rfl (spec_decimal_ok n i253 s264 hc265) (trivial) rfl (Wp 3 [] [4, 61] T2 ⟨[(4, I i253), (61, B (!decide (s264 = s1)))], []⟩ t2 ?_))))
        cases hv261
        exact WO_nil rfl ⟨rfl, rfl⟩
     ·refine thenS_n (iteO_e h (fun hb267 h => W_true rfl hb267 ?_) (fun hb267 h => W_false rfl hb267 ?_))
      ·refine Wsr ((Ws 2 [] [2, 3] ⟨[(2, I 0), (3, B false)], []⟩ (Wnt ((W_ret (thenS_r ?_))))))
       cases h
       exact ⟨[], True, by kernel_rfl, trivial⟩
      ·refine Ww [] [4] ⟨[(4, I i253)], []⟩ (W_skip (thenS_n (Wsr ((Ws 3 [] [2, 3] ⟨[(2, I i253), (3, B true)], []⟩ (Wnt ((W_ret ?_))))))))
       cases h
       exact ⟨[], True, by kernel_rfl, trivial⟩

/- spec.pathTo -/
def spec_pathTo_L1 (x1 : List Nod) : Nat → (List Int) → Int → Option ((List Int))
| 0, _, _ => none
| n + 1, x46, i47 =>
 iteO (decide (0 < i47))
 (guardO (0 ≤ i47 ∧ i47 < ((x1.length : Nat) : Int)) <|
 guardO (0 = 0 ∧ [(x1.getD i47.toNat dnod).parent].length = [(x1.getD i47.toNat dnod).parent].length ∧ [(x1.getD i47.toNat dnod).parent].length + ((x46.drop 0).take x46.length).length ≤ 1099511627776) <|
 spec_pathTo_L1 x1 n ([(x1.getD i47.toNat dnod).parent] ++ ((x46.drop 0).take x46.length)) ((x1.getD i47.toNat dnod).parent))
 (some x46)

theorem spec_pathTo_L1_ok (w : World) (X : Nat → Prop) (θ : List Loc) (x1 : List Nod) (x56 : (List Int)) : ∀ (n : Nat) (x46 : List Int) (i47 : Int), spec_pathTo_L1 x1 n x46 i47 = some x56 → WL EE ⟨w, X, θ, 20, 1⟩ (subC [1, 1, 0, 4, 4] (bodyC Tryz.f107)) (fun (e : Exit) (s : St) => e = .exit 0 ∧ s = ⟨[(5, sF 1 x56)], [nR x1, iO x56]⟩) ⟨[(0, sF 0 x1), (1, I i47), (5, sF 1 x46)], [nR x1, iO x46]⟩ := by
  intro n
  induction n with
  | zero => intro _ _ h; exact none_e h
  | succ n ih =>
    intro x46 i47 h
    rw [spec_pathTo_L1] at h
    refine WL_round ?_
    refine W_seq (Wsr ((Wp 2 [0, 1] [0, 1, 5, 9] T2 ⟨[(0, sF 0 x1), (1, I i47), (5, sF 1 x46), (9, B (decide (0 < i47)))], [nR x1, iO x46]⟩ t2 (Wnt ((iteO_e h (fun hb59 h => W_true rfl hb59 ?_) (fun hb59 h => W_false rfl hb59 ?_)))))))
    ·refine Ww [0, 1] [0, 1, 5] ⟨[(0, sF 0 x1), (1, I i47), (5, sF 1 x46)], [nR x1, iO x46]⟩ (W_skip (thenS_n (W_block (Wsr ((guardO_e h (fun hg62 h => (Wp 6 [0, 1] [0, 1, 5] ((0 ≤ i47 ∧ i47 < (lI x1)) ∧ T2) ⟨[(0, sF 0 x1), (1, I ((x1.getD i47.toNat dnod).parent)), (5, sF 1 x46)], [nR x1, iO x46]⟩ ⟨hg62, trivial, trivial⟩ (Wnt ((W_region (guardO_e h (fun hg63 h => (Wp 5 [0, 3] [0, 1, 5] ((0 = 0 ∧ [(x1.getD i47.toNat dnod).parent].length = [(x1.getD i47.toNat dnod).parent].length ∧ [(x1.getD i47.toNat dnod).parent].length + ((x46.drop 0).take x46.length).length ≤ 1099511627776) ∧ True) ⟨[(0, sF 0 x1), (1, I ((x1.getD i47.toNat dnod).parent)), (5, .one (.e (.sl 1 0 (([(x1.getD i47.toNat dnod).parent] ++ ((x46.drop 0).take x46.length)).length))))], [nR x1, .row .int ([(x1.getD i47.toNat dnod).parent] ++ ((x46.drop 0).take x46.length)) true]⟩ ⟨hg63, trivial⟩ (WO_nil rfl (blockS_n (thenS_n ?_)))))))))))))))))
     exact ih _ _ h
    ·refine Ww [0, 1] [5] ⟨[(5, sF 1 x46)], [nR x1, iO x46]⟩ (W_exit (thenS_e (thenS_e ?_)))
     cases h
     exact aI rfl rfl

def spec_pathTo (n : Nat) (x1 : List Nod) (i2 : Int) : Option ((List Int)) :=
 bindO (spec_pathTo_L1 x1 n [i2] i2) fun x56 =>
 some x56

theorem spec_pathTo_ok (n : Nat) (x1 : List Nod) (i2 : Int) (x33 : List Int) (h : spec_pathTo n x1 i2 = some x33) : FOk EE 107 [sF 0 x1, I i2] [nR x1] (sF 1 x33) [nR x1, iO x33] := by
  unfold spec_pathTo at h
  refine FOk_of_W 20 1 Tryz.func107 rfl rfl (Nat.le_of_ble_eq_true rfl) rfl (fun w X θ => ?_)
  refine Wsr ((Ws 1 [0] [0, 1] ⟨[(0, sF 0 x1), (1, I i2)], [nR x1]⟩ (Wnt ((W_seq (W_region ?_))))))
  refine Ws 3 [0, 1] [0, 1, 5] ⟨[(0, sF 0 x1), (1, I i2), (5, SL 1 0 ([i2].length))], [nR x1, .row .int [i2] true]⟩ (Wnt ((W_seq (W_block (W_loop (bindO_e h (fun x56 hx56 h => ?_)))))))
  refine WL_cut (spec_pathTo_L1_ok w X θ x1 x56 n [i2] i2 hx56) ?_
  rintro _ _ ⟨rfl, rfl⟩
  refine blockS_y (thenS_n (Wsr ((Ws 2 [0, 1] [4] ⟨[(4, sF 1 x56)], [nR x1, iO x56]⟩ (Wnt (?_))))))
  refine W_ret ?_
  cases h
  exact ⟨[0, 1], True, by kernel_rfl, trivial⟩

/- spec.pathText -/
def spec_pathText_L1 (x1 : List Nod) (i2 : Int) (x48 : List Int) : Nat → Str → Int → Option (Str)
| 0, _, _ => none
| n + 1, s66, i67 =>
 iteO (decide (i67 < ((x48.length : Nat) : Int)))
 (guardO (s66.length + [47].length ≤ 1099511627776) <|
 guardO (0 ≤ i67 ∧ i67 < ((x48.length : Nat) : Int)) <|
 guardO (0 ≤ (x48.getD i67.toNat 0) ∧ (x48.getD i67.toNat 0) < ((x1.length : Nat) : Int)) <|
 guardO ((s66 ++ [47]).length + ((x1.getD ((x48.getD i67.toNat 0).toNat) dnod).name).length ≤ 1099511627776) <|
 spec_pathText_L1 x1 i2 x48 n ((s66 ++ [47]) ++ ((x1.getD ((x48.getD i67.toNat 0).toNat) dnod).name)) (w64 (i67 + 1)))
 (some s66)

theorem spec_pathText_L1_ok (w : World) (X : Nat → Prop) (θ : List Loc) (x1 : List Nod) (i2 : Int) (x48 : List Int) (s80 : Str) : ∀ (n : Nat) (s66 : Str) (i67 : Int), spec_pathText_L1 x1 i2 x48 n s66 i67 = some s80 → WL EE ⟨w, X, θ, 31, 1⟩ (subC [1, 1, 1, 0, 1, 4, 4] (bodyC Tryz.f72)) (fun (e : Exit) (s : St) => e = .exit 0 ∧ s = ⟨[(1, I i2), (5, S s80)], [nR x1]⟩) ⟨[(0, sF 0 x1), (1, I i2), (5, S s66), (6, sF 1 x48), (7, I i67)], [nR x1, iO x48]⟩ := by
  intro n
  induction n with
  | zero => intro _ _ h; exact none_e h
  | succ n ih =>
    intro s66 i67 h
    rw [spec_pathText_L1] at h
    refine WL_round ?_
    refine W_seq (Wsr ((Wp 4 [0, 1] [0, 1, 5, 6, 7, 14] T3 ⟨[(0, sF 0 x1), (1, I i2), (5, S s66), (6, sF 1 x48), (7, I i67), (14, B (decide (i67 < (lI x48))))], [nR x1, iO x48]⟩ t3 (Wnt ((iteO_e h (fun hb83 h => W_true rfl hb83 ?_) (fun hb83 h => W_false rfl hb83 ?_)))))))
    ·refine Ww [0, 1] [0, 1, 5, 6, 7] ⟨[(0, sF 0 x1), (1, I i2), (5, S s66), (6, sF 1 x48), (7, I i67)], [nR x1, iO x48]⟩ (W_skip (thenS_n (W_seq (W_block (W_region (guardO_e h (fun hg88 h => (guardO_e h (fun hg89 h => (guardO_e h (fun hg90 h => (guardO_e h (fun hg91 h => (Wp 12 [0, 1] [0, 1, 5, 6, 7] ((s66.length + [47].length ≤ 1099511627776) ∧ ((0 ≤ i67 ∧ i67 < (lI x48)) ∧ (True ∧ ((0 ≤ (x48.getD i67.toNat 0) ∧ (x48.getD i67.toNat 0) < (lI x1)) ∧ (True ∧ (((s66 ++ [47]).length + ((x1.getD ((x48.getD i67.toNat 0).toNat) dnod).name).length ≤ 1099511627776) ∧ True)))))) ⟨[(0, sF 0 x1), (1, I i2), (5, S ((s66 ++ [47]) ++ ((x1.getD ((x48.getD i67.toNat 0).toNat) dnod).name))), (6, sF 1 x48), (7, I i67)], [nR x1, iO x48]⟩ ⟨hg88, hg89, trivial, hg90, trivial, hg91, trivial⟩ (WO_nil rfl (blockS_n (thenS_n (W_region (Wp 3 [0, 1] [0, 1, 5, 6, 7] T2 ⟨[(0, sF 0 x1), (1, I i2), (5, S ((s66 ++ [47]) ++ ((x1.getD ((x48.getD i67.toNat 0).toNat) dnod).name))), (6, sF 1 x48), (7, I (w64 (i67 + 1)))], [nR x1, iO x48]⟩ t2 (Wnt (?_)))))))))))))))))))))
     exact ih _ _ h
    ·refine Ww [0] [1, 5] ⟨[(1, I i2), (5, S s66)], [nR x1]⟩ (W_exit (thenS_e (thenS_e ?_)))
     cases h
     exact aI rfl rfl

def spec_pathText (n : Nat) (x1 : List Nod) (i2 : Int) : Option (Str) :=
 bindO (spec_pathTo n x1 i2) fun x48 =>
 bindO (spec_pathText_L1 x1 i2 x48 n [] 1) fun s80 =>
 iteO (decide (i2 = 0))
 (some [47])
 (some s80)

theorem spec_pathText_ok (n : Nat) (x1 : List Nod) (i2 : Int) (s47 : Str) (h : spec_pathText n x1 i2 = some s47) : FOk EE 72 [sF 0 x1, I i2] [nR x1] (S s47) [nR x1] := by
  unfold spec_pathText at h
  refine FOk_of_W 31 1 Tryz.func72 rfl rfl (Nat.le_of_ble_eq_true rfl) rfl (fun w X θ => ?_)
  refine Wsr ((Ws 1 [0] [0, 1] ⟨[(0, sF 0 x1), (1, I i2)], [nR x1]⟩ (Wnt ((W_seq (W_region ?_))))))
  refine Ws 1 [0] [0, 1, 5] ⟨[(0, sF 0 x1), (1, I i2), (5, S [])], [nR x1]⟩ (Wnt ((Wsr ((Ws 2 [0] [0, 1, 5, 8, 9] ⟨[(0, sF 0 x1), (1, I i2), (5, S []), (8, sF 0 x1), (9, I i2)], [nR x1]⟩ (bindO_e h (fun x48 hc49 h => ?_)))))))
  refine Wc [.ro 0] rfl rfl rfl Tryz.func107 rfl (spec_pathTo_ok n x1 i2 x48 hc49) (aI (aI rfl rfl) (trivial)) rfl (Ws 1 [0, 1] [0, 1, 5, 6] ⟨[(0, sF 0 x1), (1, I i2), (5, S []), (6, sF 1 x48)], [nR x1, iO x48]⟩ (Wnt ((W_seq (W_seq (W_region ?_))))))
  refine Ws 1 [0, 1] [0, 1, 5, 6, 7] ⟨[(0, sF 0 x1), (1, I i2), (5, S []), (6, sF 1 x48), (7, I 1)], [nR x1, iO x48]⟩ (Wnt ((W_block (W_loop (bindO_e h (fun s80 hs80 h => (WL_cut (spec_pathText_L1_ok w X θ x1 i2 x48 s80 n [] 1 hs80) ?_)))))))
  rintro _ _ ⟨rfl, rfl⟩
  refine blockS_y (thenS_n (W_seq (Wsr ((Wp 2 [0] [5, 29] T2 ⟨[(5, S s80), (29, B (decide (i2 = 0)))], [nR x1]⟩ t2 (WO_nil rfl ?_))))))
  refine thenS_n (iteO_e h (fun hb94 h => W_true rfl hb94 ?_) (fun hb94 h => W_false rfl hb94 ?_))
  ·refine Wsr ((Ws 1 [0] [4] ⟨[(4, S [47])], [nR x1]⟩ (Wnt ((W_ret (thenS_r ?_))))))
   cases h
   exact ⟨[0], True, by kernel_rfl, trivial⟩
  ·refine Ww [0] [5] ⟨[(5, S s80)], [nR x1]⟩ (W_skip (thenS_n (Wsr ((Ws 2 [0] [4] ⟨[(4, S s80)], [nR x1]⟩ (Wnt ((W_ret ?_))))))))
   cases h
   exact ⟨[0], True, by kernel_rfl, trivial⟩

/- spec.resolve -/
def spec_resolve_L1 (x1 : List Nod) (s2 : Str) : Nat → Int → Option ((Int) ⊕ (Unit))
| 0, _ => none
| n + 1, i56 =>
 iteO (decide (i56 < ((x1.length : Nat) : Int)))
 (bindO (spec_pathText n x1 i56) fun s76 =>
 iteO (decide (s76 = s2))
 (some (.inl i56))
 (spec_resolve_L1 x1 s2 n (w64 (i56 + 1))))
 (some (.inr ()))

theorem spec_resolve_L1_ok (w : World) (X : Nat → Prop) (θ : List Loc) (x1 : List Nod) (s2 : Str) (v : (Int) ⊕ (Unit)) : ∀ (n : Nat) (i56 : Int), spec_resolve_L1 x1 s2 n i56 = some v → WL EE ⟨w, X, θ, 18, 1⟩ (subC [1, 0, 1, 4, 4] (bodyC Tryz.f44)) (fun (e : Exit) (s : St) => (match v with | (.inl i68) => e = .ret ∧ s = ⟨[(4, I i68)], [nR x1]⟩ | (.inr _) => e = .exit 0 ∧ s = ⟨[], [nR x1]⟩ : Prop)) ⟨[(0, sF 0 x1), (1, S s2), (5, I i56)], [nR x1]⟩ := by
  intro n
  induction n with
  | zero => intro _ h; exact none_e h
  | succ n ih =>
    intro i56 h
    rw [spec_resolve_L1] at h
    refine WL_round ?_
    refine W_seq (Wsr ((Wp 4 [0] [0, 1, 5, 9] T3 ⟨[(0, sF 0 x1), (1, S s2), (5, I i56), (9, B (decide (i56 < (lI x1))))], [nR x1]⟩ t3 (Wnt ((iteO_e h (fun hb71 h => W_true rfl hb71 ?_) (fun hb71 h => W_false rfl hb71 ?_)))))))
    ·refine Ww [0] [0, 1, 5] ⟨[(0, sF 0 x1), (1, S s2), (5, I i56)], [nR x1]⟩ (W_skip (thenS_n (W_seq (W_block (Wsr ((Ws 2 [0] [0, 1, 5, 12, 13] ⟨[(0, sF 0 x1), (1, S s2), (5, I i56), (12, sF 0 x1), (13, I i56)], [nR x1]⟩ (bindO_e h (fun s76 hc77 h => (Wc [.ro 0] rfl rfl rfl Tryz.func72 rfl (spec_pathText_ok n x1 i56 s76 hc77) (aI (aI rfl rfl) (trivial)) rfl (Wp 2 [0] [0, 1, 5, 16] T2 ⟨[(0, sF 0 x1), (1, S s2), (5, I i56), (16, B (decide (s76 = s2)))], [nR x1]⟩ t2 (Wnt ((iteO_e h (fun hb79 h => W_true rfl hb79 ?_) (fun hb79 h => W_false rfl hb79 ?_)))))))))))))))
     ·refine Wsr ((Ws 2 [0] [4] ⟨[(4, I i56)], [nR x1]⟩ (Wnt ((W_ret (blockS_r (thenS_r (thenS_r ?_))))))))
      cases h
      exact aI rfl rfl
     ·refine Ww [0] [0, 1, 5] ⟨[(0, sF 0 x1), (1, S s2), (5, I i56)], [nR x1]⟩ (W_skip (blockS_n (thenS_n (W_region (Wp 3 [0] [0, 1, 5] T2 ⟨[(0, sF 0 x1), (1, S s2), (5, I (w64 (i56 + 1)))], [nR x1]⟩ t2 (Wnt (?_)))))))
      exact ih _ h
    ·refine Ww [0] [] ⟨[], [nR x1]⟩ (W_exit (thenS_e (thenS_e ?_)))
     cases h
     exact aI rfl rfl

def spec_resolve (n : Nat) (x1 : List Nod) (s2 : Str) : Option (Int) :=
 bindO (spec_resolve_L1 x1 s2 n 0) fun v80 =>
 match v80 with
 | (.inl i68) => (some i68)
 | (.inr _) => (some (-1))


theorem spec_resolve_ok (n : Nat) (x1 : List Nod) (s2 : Str) (i41 : Int) (h : spec_resolve n x1 s2 = some i41) : FOk EE 44 [sF 0 x1, S s2] [nR x1] (I i41) [nR x1] := by
  unfold spec_resolve at h
  refine FOk_of_W 18 1 Tryz.func44 rfl rfl (Nat.le_of_ble_eq_true rfl) rfl (fun w X θ => ?_)
  refine Wsr ((Ws 1 [0] [0, 1] ⟨[(0, sF 0 x1), (1, S s2)], [nR x1]⟩ (Wnt ((W_seq (W_seq ?_))))))
  refine W_region (Ws 1 [0] [0, 1, 5] ⟨[(0, sF 0 x1), (1, S s2), (5, I 0)], [nR x1]⟩ (Wnt ((W_block (W_loop (bindO_e h (fun v80 hv80 h => ?_)))))))
  refine WL_cut (spec_resolve_L1_ok w X θ x1 s2 v80 n 0 hv80) ?_
  rcases v80 with i68 | _
  ·rintro _ _ ⟨rfl, rfl⟩
   refine blockS_r (thenS_r ?_)
   cases h
   exact ⟨[0], True, by kernel_rfl, trivial⟩
  ·rintro _ _ ⟨rfl, rfl⟩
   refine blockS_y (thenS_n (Wsr ((Ws 1 [0] [4] ⟨[(4, I (-1))], [nR x1]⟩ (Wnt ((W_ret ?_)))))))
   cases h
   exact ⟨[0], True, by kernel_rfl, trivial⟩

/- spec.cut -/
def spec_cut_L1 (s1 : Str) : Nat → Int → Option ((Str × Str) ⊕ (Unit))
| 0, _ => none
| n + 1, i86 =>
 iteO (decide (0 < i86))
 (guardO (0 ≤ i86 ∧ i86 < ((s1.length : Nat) : Int)) <|
 iteO (decide (((s1.getD i86.toNat 0).toNat : Int) = 47))
 (guardO (0 ≤ i86 ∧ i86 ≤ ((s1.length : Nat) : Int)) <|
 guardO (0 ≤ (w64 (i86 + 1)) ∧ (w64 (i86 + 1)) ≤ ((s1.length : Nat) : Int)) <|
 some (.inl ((s1.take i86.toNat), (s1.drop ((w64 (i86 + 1)).toNat)))))
 (spec_cut_L1 s1 n (w64 (i86 - 1))))
 (some (.inr ()))

theorem spec_cut_L1_ok (w : World) (X : Nat → Prop) (θ : List Loc) (s1 : Str) (v : (Str × Str) ⊕ (Unit)) : ∀ (n : Nat) (i86 : Int), spec_cut_L1 s1 n i86 = some v → WL EE ⟨w, X, θ, 28, 0⟩ (subC [1, 0, 1, 4, 4] (bodyC Tryz.f43)) (fun (e : Exit) (s : St) => (match v with | (.inl (s104, s105)) => e = .ret ∧ s = ⟨[(2, S s104), (3, S s105)], []⟩ | (.inr _) => e = .exit 0 ∧ s = ⟨[(0, S s1)], []⟩ : Prop)) ⟨[(0, S s1), (4, I i86)], []⟩ := by
  intro n
  induction n with
  | zero => intro _ h; exact none_e h
  | succ n ih =>
    intro i86 h
    rw [spec_cut_L1] at h
    refine WL_round ?_
    refine W_seq (Wsr ((Wp 2 [] [0, 4, 9] T2 ⟨[(0, S s1), (4, I i86), (9, B (decide (0 < i86)))], []⟩ t2 (Wnt ((iteO_e h (fun hb108 h => W_true rfl hb108 ?_) (fun hb108 h => W_false rfl hb108 ?_)))))))
    ·refine Ww [] [0, 4] ⟨[(0, S s1), (4, I i86)], []⟩ (W_skip (thenS_n (W_seq (W_block (Wsr ((guardO_e h (fun hg116 h => (Wp 4 [] [0, 4, 15] ((0 ≤ i86 ∧ i86 < (lI s1)) ∧ T2) ⟨[(0, S s1), (4, I i86), (15, B (decide (((s1.getD i86.toNat 0).toNat : Int) = 47)))], []⟩ ⟨hg116, trivial, trivial⟩ (Wnt ((iteO_e h (fun hb120 h => W_true rfl hb120 ?_) (fun hb120 h => W_false rfl hb120 ?_)))))))))))))
     ·refine W_seq (guardO_e h (fun hg121 h => (guardO_e h (fun hg122 h => (W_cut (Q' := fun (e : Exit) (s : St) => e = .normal ∧ s = ⟨[(2, S (s1.take i86.toNat)), (3, S (s1.drop ((w64 (i86 + 1)).toNat)))], []⟩) ?_ ?_)))))
      ·refine W_draw [] true (by kernel_rfl) (by kernel_rfl) (WD_takeQ [0, 1, 2, 3, 4, 5, 6, 7, 8] [2, 3] [2, 3] (φ := ((0 ≤ i86 ∧ i86 ≤ (lI s1)) ∧ (0 ≤ i86 ∧ i86 ≤ (lI s1)) ∧ (True ∧ True ∧ ((0 ≤ (w64 (i86 + 1)) ∧ (w64 (i86 + 1)) ≤ (lI s1)) ∧ (0 ≤ (w64 (i86 + 1)) ∧ (w64 (i86 + 1)) ≤ (lI s1)) ∧ True)))) (ls' := (tf true [9])) (st' := ⟨[(2, S (s1.take i86.toNat)), (3, S (s1.drop ((w64 (i86 + 1)).toNat)))], []⟩) (n2 := 0) (by kernel_rfl) ⟨hg121, hg121, trivial, trivial, hg122, hg122, trivial⟩ rfl ?_)
       exact WD_done [] [2, 3] (st' := ⟨[(2, S (s1.take i86.toNat)), (3, S (s1.drop ((w64 (i86 + 1)).toNat)))], []⟩) (by kernel_rfl) (by kernel_rfl) (aI rfl rfl)
      ·rintro _ _ ⟨rfl, rfl⟩
       refine thenS_n (W_ret (blockS_r (thenS_r (thenS_r ?_))))
       cases h
       exact aI rfl rfl
     ·refine Ww [] [0, 4] ⟨[(0, S s1), (4, I i86)], []⟩ (W_skip (blockS_n (thenS_n (W_region (Wp 3 [] [0, 4] T2 ⟨[(0, S s1), (4, I (w64 (i86 - 1)))], []⟩ t2 (Wnt (?_)))))))
      exact ih _ h
    ·refine Ww [] [0] ⟨[(0, S s1)], []⟩ (W_exit (thenS_e (thenS_e ?_)))
     cases h
     exact aI rfl rfl

def spec_cut (n : Nat) (s1 : Str) : Option (Str × Str) :=
 bindO (spec_cut_L1 s1 n (w64 (((s1.length : Nat) : Int) - 1))) fun v123 =>
 match v123 with
 | (.inl (s104, s105)) => (some (s104, s105))
 | (.inr _) => (iteO (decide (((s1.length : Nat) : Int) = 0))
 (some ([], []))
 (guardO (0 ≤ (1 : Int) ∧ (1 : Int) ≤ ((s1.length : Nat) : Int)) <|
 some ([47], (s1.drop 1))))


theorem spec_cut_ok (n : Nat) (s1 : Str) (s63 : Str) (s64 : Str) (h : spec_cut n s1 = some (s63, s64)) : FOk EE 43 [S s1] [] (.tup [.e (cS s63), .e (cS s64)]) [] := by
  unfold spec_cut at h
  refine FOk_of_W 28 0 Tryz.func43 rfl rfl (Nat.le_of_ble_eq_true rfl) rfl (fun w X θ => ?_)
  refine Wsr ((Ws 2 [] [0] ⟨[(0, S s1)], []⟩ (Wnt ((W_seq (W_seq ?_))))))
  refine W_region (Wp 4 [] [0, 4] T3 ⟨[(0, S s1), (4, I (w64 ((lI s1) - 1)))], []⟩ t3 (Wnt ((W_block (W_loop (bindO_e h (fun v123 hv123 h => ?_)))))))
  refine WL_cut (spec_cut_L1_ok w X θ s1 v123 n (w64 ((lI s1) - 1)) hv123) ?_
  rcases v123 with ⟨s104, s105⟩ | _
  ·rintro _ _ ⟨rfl, rfl⟩
   refine blockS_r (thenS_r ?_)
   cases h
   exact ⟨[], True, by kernel_rfl, trivial⟩
  ·rintro _ _ ⟨rfl, rfl⟩
   refine blockS_y (thenS_n (W_seq (Wsr ((Wp 3 [] [0, 25] T3 ⟨[(0, S s1), (25, B (decide ((lI s1) = 0)))], []⟩ t3 (Wnt ((iteO_e h (fun hb125 h => W_true rfl hb125 ?_) (fun hb125 h => W_false rfl hb125 ?_)))))))))
   ·refine Wsr ((Ws 2 [] [2, 3] ⟨[(2, S []), (3, S [])], []⟩ (Wnt ((W_ret (thenS_r ?_))))))
    cases h
    exact ⟨[], True, by kernel_rfl, trivial⟩
   ·refine Ww [] [0] ⟨[(0, S s1)], []⟩ (W_skip (thenS_n (W_seq (guardO_e h (fun hg126 h => (W_cut (Q' := fun (e : Exit) (s : St) => e = .normal ∧ s = ⟨[(2, S [47]), (3, S (s1.drop 1))], []⟩) ?_ ?_))))))
    ·refine W_draw [] true (by kernel_rfl) (by kernel_rfl) (WD_takeQ [0, 1, 2, 3] [2, 3] [2, 3] (φ := ((0 ≤ (1 : Int) ∧ (1 : Int) ≤ (lI s1)) ∧ (0 ≤ (1 : Int) ∧ (1 : Int) ≤ (lI s1)) ∧ True)) (ls' := #[true, true, true, true]) (st' := ⟨[(2, S [47]), (3, S (s1.drop 1))], []⟩) (n2 := 0) (by kernel_rfl) ⟨hg126, hg126, trivial⟩ rfl ?_)
     exact WD_done [] [2, 3] (st' := ⟨[(2, S [47]), (3, S (s1.drop 1))], []⟩) (by kernel_rfl) (by kernel_rfl) (aI rfl rfl)
    ·rintro _ _ ⟨rfl, rfl⟩
     refine thenS_n (W_ret ?_)
     cases h
     exact ⟨[], True, by kernel_rfl, trivial⟩

/- spec.held -/
def spec_held_L1 (x1 : List Lck) (i2 : Int) (i3 : Int) : Nat → Int → Option ((Int) ⊕ (Unit))
| 0, _ => none
| n + 1, i113 =>
 iteO (decide (i113 < ((x1.length : Nat) : Int)))
 (guardO (0 ≤ i113 ∧ i113 < ((x1.length : Nat) : Int)) <|
 bindO (iteO (decide (((x1.getD i113.toNat dlck).who) = i2))
 (guardO (0 ≤ i113 ∧ i113 < ((x1.length : Nat) : Int)) <|
 some (decide (((x1.getD i113.toNat dlck).node) = i3)))
 (some false)) fun b157 =>
 iteO b157
 (guardO (0 ≤ i113 ∧ i113 < ((x1.length : Nat) : Int)) <|
 some (.inl ((x1.getD i113.toNat dlck).mode)))
 (spec_held_L1 x1 i2 i3 n (w64 (i113 + 1))))
 (some (.inr ()))

theorem spec_held_L1_ok (w : World) (X : Nat → Prop) (θ : List Loc) (x1 : List Lck) (i2 : Int) (i3 : Int) (v : (Int) ⊕ (Unit)) : ∀ (n : Nat) (i113 : Int), spec_held_L1 x1 i2 i3 n i113 = some v → WL EE ⟨w, X, θ, 35, 1⟩ (subC [1, 0, 1, 4, 4] (bodyC Tryz.f125)) (fun (e : Exit) (s : St) => (match v with | (.inl i139) => e = .ret ∧ s = ⟨[(6, I i139)], [lR x1]⟩ | (.inr _) => e = .exit 0 ∧ s = ⟨[], [lR x1]⟩ : Prop)) ⟨[(0, sF 0 x1), (1, I i2), (2, I i3), (7, I i113)], [lR x1]⟩ := by
  intro n
  induction n with
  | zero => intro _ h; exact none_e h
  | succ n ih =>
    intro i113 h
    rw [spec_held_L1] at h
    refine WL_round ?_
    refine W_seq (Wsr ((Wp 4 [0] [0, 1, 2, 7, 11] T3 ⟨[(0, sF 0 x1), (1, I i2), (2, I i3), (7, I i113), (11, B (decide (i113 < (lI x1))))], [lR x1]⟩ t3 (Wnt ((iteO_e h (fun hb142 h => W_true rfl hb142 ?_) (fun hb142 h => W_false rfl hb142 ?_)))))))
    ·refine Ww [0] [0, 1, 2, 7] ⟨[(0, sF 0 x1), (1, I i2), (2, I i3), (7, I i113)], [lR x1]⟩ (W_skip (thenS_n (W_seq (W_block (Wsr ((guardO_e h (fun hg154 h => (Wp 8 [0] [0, 1, 2, 7, 21] ((0 ≤ i113 ∧ i113 < (lI x1)) ∧ T3) ⟨[(0, sF 0 x1), (1, I i2), (2, I i3), (7, I i113), (21, B (decide (((x1.getD i113.toNat dlck).who) = i2)))], [lR x1]⟩ ⟨hg154, trivial, trivial, trivial⟩ (bindO_e h (fun b157 hv158 h => (WO_thru ⟨[(0, sF 0 x1), (1, I i2), (2, I i3), (7, I i113), (29, B b157)], [lR x1]⟩ ?_ ?_))))))))))))
     ·refine iteO_e hv158 (fun hb159 hv158 => WO_known 21 true rfl hb159 ?_) (fun hb159 hv158 => WO_known 21 false rfl hb159 ?_)
      ·refine guardO_e hv158 (fun hg160 hv158 => (Wp 8 [0] [0, 1, 2, 7, 29] ((0 ≤ i113 ∧ i113 < (lI x1)) ∧ T3) ⟨[(0, sF 0 x1), (1, I i2), (2, I i3), (7, I i113), (29, B (decide (((x1.getD i113.toNat dlck).node) = i3)))], [lR x1]⟩ ⟨hg160, trivial, trivial, trivial⟩ ?_))
       cases hv158
       exact WO_nil rfl ⟨rfl, rfl⟩
      ·refine Ws 8 [0] [0, 1, 2, 7, 29] ⟨[(0, sF 0 x1), (1, I i2), (2, I i3), (7, I i113), (29, B false)], [lR x1]⟩ ?_
       cases hv158
       exact WO_nil rfl ⟨rfl, rfl⟩
     ·refine thenS_n (iteO_e h (fun hb163 h => W_true rfl hb163 ?_) (fun hb163 h => W_false rfl hb163 ?_))
      ·refine Wsr ((guardO_e h (fun hg164 h => (Wp 6 [0] [6] ((0 ≤ i113 ∧ i113 < (lI x1)) ∧ T2) ⟨[(6, I ((x1.getD i113.toNat dlck).mode))], [lR x1]⟩ ⟨hg164, trivial, trivial⟩ (Wnt ((W_ret (blockS_r (thenS_r (thenS_r ?_))))))))))
       cases h
       exact aI rfl rfl
      ·refine Ww [0] [0, 1, 2, 7] ⟨[(0, sF 0 x1), (1, I i2), (2, I i3), (7, I i113)], [lR x1]⟩ (W_skip (blockS_n (thenS_n (W_region (Wp 3 [0] [0, 1, 2, 7] T2 ⟨[(0, sF 0 x1), (1, I i2), (2, I i3), (7, I (w64 (i113 + 1)))], [lR x1]⟩ t2 (Wnt (?_)))))))
       exact ih _ h
    ·refine Ww [0] [] ⟨[], [lR x1]⟩ (W_exit (thenS_e (thenS_e ?_)))
     cases h
     exact aI rfl rfl

def spec_held (n : Nat) (x1 : List Lck) (i2 : Int) (i3 : Int) : Option (Int) :=
 bindO (spec_held_L1 x1 i2 i3 n 0) fun v165 =>
 match v165 with
 | (.inl i139) => (some i139)
 | (.inr _) => (some 0)


theorem spec_held_ok (n : Nat) (x1 : List Lck) (i2 : Int) (i3 : Int) (i84 : Int) (h : spec_held n x1 i2 i3 = some i84) : FOk EE 125 [sF 0 x1, I i2, I i3] [lR x1] (I i84) [lR x1] := by
  unfold spec_held at h
  refine FOk_of_W 35 1 Tryz.func125 rfl rfl (Nat.le_of_ble_eq_true rfl) rfl (fun w X θ => ?_)
  refine Wsr ((Ws 1 [0] [0, 1, 2] ⟨[(0, sF 0 x1), (1, I i2), (2, I i3)], [lR x1]⟩ (Wnt ((W_seq (W_seq ?_))))))
  refine W_region (Ws 1 [0] [0, 1, 2, 7] ⟨[(0, sF 0 x1), (1, I i2), (2, I i3), (7, I 0)], [lR x1]⟩ (Wnt ((W_block (W_loop (bindO_e h (fun v165 hv165 h => ?_)))))))
  refine WL_cut (spec_held_L1_ok w X θ x1 i2 i3 v165 n 0 hv165) ?_
  rcases v165 with i139 | _
  ·rintro _ _ ⟨rfl, rfl⟩
   refine blockS_r (thenS_r ?_)
   cases h
   exact ⟨[0], True, by kernel_rfl, trivial⟩
  ·rintro _ _ ⟨rfl, rfl⟩
   refine blockS_y (thenS_n (Wsr ((Ws 1 [0] [6] ⟨[(6, I 0)], [lR x1]⟩ (Wnt ((W_ret ?_)))))))
   cases h
   exact ⟨[0], True, by kernel_rfl, trivial⟩

/- spec.mayWrite -/
def spec_mayWrite_L1 (x2 : List Lck) (i3 : Int) (x50 : List Int) (x1 : List Nod) : Nat → Int → Option ((Unit) ⊕ (Unit))
| 0, _ => none
| n + 1, i67 =>
 iteO (decide (i67 < ((x50.length : Nat) : Int)))
 (guardO (0 ≤ i67 ∧ i67 < ((x50.length : Nat) : Int)) <|
 bindO (spec_held n x2 i3 (x50.getD i67.toNat 0)) fun i90 =>
 iteO (decide (i90 = 5))
 (some (.inl ()))
 (spec_mayWrite_L1 x2 i3 x50 x1 n (w64 (i67 + 1))))
 (some (.inr ()))

theorem spec_mayWrite_L1_ok (w : World) (X : Nat → Prop) (θ : List Loc) (x2 : List Lck) (i3 : Int) (x50 : List Int) (x1 : List Nod) (v : (Unit) ⊕ (Unit)) : ∀ (n : Nat) (i67 : Int), spec_mayWrite_L1 x2 i3 x50 x1 n i67 = some v → WL EE ⟨w, X, θ, 28, 2⟩ (subC [1, 1, 0, 1, 4, 4] (bodyC Tryz.f90)) (fun (e : Exit) (s : St) => (match v with | (.inl _) => e = .ret ∧ s = ⟨[(8, B true)], [nR x1, lR x2]⟩ | (.inr _) => e = .exit 0 ∧ s = ⟨[], [nR x1, lR x2]⟩ : Prop)) ⟨[(1, sF 1 x2), (2, I i3), (9, sF 2 x50), (10, I i67)], [nR x1, lR x2, iO x50]⟩ := by
  intro n
  induction n with
  | zero => intro _ h; exact none_e h
  | succ n ih =>
    intro i67 h
    rw [spec_mayWrite_L1] at h
    refine WL_round ?_
    refine W_seq (Wsr ((Wp 4 [0, 1, 2] [1, 2, 9, 10, 17] T3 ⟨[(1, sF 1 x2), (2, I i3), (9, sF 2 x50), (10, I i67), (17, B (decide (i67 < (lI x50))))], [nR x1, lR x2, iO x50]⟩ t3 (Wnt ((iteO_e h (fun hb83 h => W_true rfl hb83 ?_) (fun hb83 h => W_false rfl hb83 ?_)))))))
    ·refine Ww [0, 1, 2] [1, 2, 9, 10] ⟨[(1, sF 1 x2), (2, I i3), (9, sF 2 x50), (10, I i67)], [nR x1, lR x2, iO x50]⟩ (W_skip (thenS_n (W_seq (W_block (Wsr ((guardO_e h (fun hg89 h => (Wp 6 [0, 1, 2] [1, 2, 9, 10, 20, 21, 25] ((0 ≤ i67 ∧ i67 < (lI x50)) ∧ T2) ⟨[(1, sF 1 x2), (2, I i3), (9, sF 2 x50), (10, I i67), (20, sF 1 x2), (21, I i3), (25, I (x50.getD i67.toNat 0))], [nR x1, lR x2, iO x50]⟩ ⟨hg89, trivial, trivial⟩ (bindO_e h (fun i90 hc91 h => (Wc [.ro 1] rfl rfl rfl Tryz.func125 rfl (spec_held_ok n x2 i3 (x50.getD i67.toNat 0) i90 hc91) (aI (aI rfl rfl) (trivial)) rfl (Wp 1 [0, 1, 2] [1, 2, 9, 10, 27] T2 ⟨[(1, sF 1 x2), (2, I i3), (9, sF 2 x50), (10, I i67), (27, B (decide (i90 = 5)))], [nR x1, lR x2, iO x50]⟩ t2 (Wnt ((iteO_e h (fun hb93 h => W_true rfl hb93 ?_) (fun hb93 h => W_false rfl hb93 ?_)))))))))))))))))
     ·refine Wsr ((Ws 1 [0, 1] [8] ⟨[(8, B true)], [nR x1, lR x2]⟩ (Wnt ((W_ret (blockS_r (thenS_r (thenS_r ?_))))))))
      cases h
      exact aI rfl rfl
     ·refine Ww [0, 1, 2] [1, 2, 9, 10] ⟨[(1, sF 1 x2), (2, I i3), (9, sF 2 x50), (10, I i67)], [nR x1, lR x2, iO x50]⟩ (W_skip (blockS_n (thenS_n (W_region (Wp 3 [0, 1, 2] [1, 2, 9, 10] T2 ⟨[(1, sF 1 x2), (2, I i3), (9, sF 2 x50), (10, I (w64 (i67 + 1)))], [nR x1, lR x2, iO x50]⟩ t2 (Wnt (?_)))))))
      exact ih _ h
    ·refine Ww [0, 1] [] ⟨[], [nR x1, lR x2]⟩ (W_exit (thenS_e (thenS_e ?_)))
     cases h
     exact aI rfl rfl

def spec_mayWrite (n : Nat) (x1 : List Nod) (x2 : List Lck) (i3 : Int) (i4 : Int) : Option (Bool) :=
 bindO (spec_pathTo n x1 i4) fun x50 =>
 bindO (spec_mayWrite_L1 x2 i3 x50 x1 n 0) fun v94 =>
 match v94 with
 | (.inl _) => (some true)
 | (.inr _) => (some false)


theorem spec_mayWrite_ok (n : Nat) (x1 : List Nod) (x2 : List Lck) (i3 : Int) (i4 : Int) (b49 : Bool) (h : spec_mayWrite n x1 x2 i3 i4 = some b49) : FOk EE 90 [sF 0 x1, sF 1 x2, I i3, I i4] [nR x1, lR x2] (B b49) [nR x1, lR x2] := by
  unfold spec_mayWrite at h
  refine FOk_of_W 28 2 Tryz.func90 rfl rfl (Nat.le_of_ble_eq_true rfl) rfl (fun w X θ => ?_)
  refine Wsr ((Ws 1 [0, 1] [0, 1, 2, 3] ⟨[(0, sF 0 x1), (1, sF 1 x2), (2, I i3), (3, I i4)], [nR x1, lR x2]⟩ (Wnt ((W_seq (W_region ?_))))))
  refine Ws 2 [0, 1] [1, 2, 11, 12] ⟨[(1, sF 1 x2), (2, I i3), (11, sF 0 x1), (12, I i4)], [nR x1, lR x2]⟩ (bindO_e h (fun x50 hc51 h => (Wc [.ro 0] rfl rfl rfl Tryz.func107 rfl (spec_pathTo_ok n x1 i4 x50 hc51) (aI (aI rfl rfl) (trivial)) rfl (Ws 1 [0, 1, 2] [1, 2, 9] ⟨[(1, sF 1 x2), (2, I i3), (9, sF 2 x50)], [nR x1, lR x2, iO x50]⟩ (Wnt ((W_seq ?_)))))))
  refine Wsr ((Ws 1 [0, 1, 2] [1, 2, 9, 10] ⟨[(1, sF 1 x2), (2, I i3), (9, sF 2 x50), (10, I 0)], [nR x1, lR x2, iO x50]⟩ (Wnt ((W_block (W_loop ?_))))))
  refine bindO_e h (fun v94 hv94 h => (WL_cut (spec_mayWrite_L1_ok w X θ x2 i3 x50 x1 v94 n 0 hv94) ?_))
  rcases v94 with _ | _
  ·rintro _ _ ⟨rfl, rfl⟩
   refine blockS_r (thenS_r ?_)
   cases h
   exact ⟨[0, 1], True, by kernel_rfl, trivial⟩
  ·rintro _ _ ⟨rfl, rfl⟩
   refine blockS_y (thenS_n (Wsr ((Ws 1 [0, 1] [8] ⟨[(8, B false)], [nR x1, lR x2]⟩ (Wnt ((W_ret ?_)))))))
   cases h
   exact ⟨[0, 1], True, by kernel_rfl, trivial⟩

/- spec.validName -/
def spec_validName_L1 (s1 : Str) : Nat → Int → Option ((Unit) ⊕ (Unit))
| 0, _ => none
| n + 1, i44 =>
 iteO (decide (i44 < ((s1.length : Nat) : Int)))
 (guardO (0 ≤ i44 ∧ i44 < ((s1.length : Nat) : Int)) <|
 iteO (!(spec_inRange (w64 ((s1.getD i44.toNat 0).toNat : Int)) 97 122))
 (some (.inl ()))
 (spec_validName_L1 s1 n (w64 (i44 + 1))))
 (some (.inr ()))

theorem spec_validName_L1_ok (w : World) (X : Nat → Prop) (θ : List Loc) (s1 : Str) (v : (Unit) ⊕ (Unit)) : ∀ (n : Nat) (i44 : Int), spec_validName_L1 s1 n i44 = some v → WL EE ⟨w, X, θ, 19, 0⟩ (subC [1, 0, 1, 4, 4] (bodyC Tryz.f108)) (fun (e : Exit) (s : St) => (match v with | (.inl _) => e = .ret ∧ s = ⟨[(2, B false)], []⟩ | (.inr _) => e = .exit 0 ∧ s = ⟨[(0, S s1)], []⟩ : Prop)) ⟨[(0, S s1), (3, I i44)], []⟩ := by
  intro n
  induction n with
  | zero => intro _ h; exact none_e h
  | succ n ih =>
    intro i44 h
    rw [spec_validName_L1] at h
    refine WL_round ?_
    refine W_seq (Wsr ((Wp 4 [] [0, 3, 7] T3 ⟨[(0, S s1), (3, I i44), (7, B (decide (i44 < (lI s1))))], []⟩ t3 (Wnt ((iteO_e h (fun hb56 h => W_true rfl hb56 ?_) (fun hb56 h => W_false rfl hb56 ?_)))))))
    ·refine Ww [] [0, 3] ⟨[(0, S s1), (3, I i44)], []⟩ (W_skip (thenS_n (W_seq (W_block (Wsr ((guardO_e h (fun hg60 h => (Wp 4 [] [0, 3, 13] ((0 ≤ i44 ∧ i44 < (lI s1)) ∧ T2) ⟨[(0, S s1), (3, I i44), (13, I (w64 ((s1.getD i44.toNat 0).toNat : Int)))], []⟩ ⟨hg60, trivial, trivial⟩ (Wc [] rfl rfl rfl Tryz.func71 rfl (spec_inRange_ok (w64 ((s1.getD i44.toNat 0).toNat : Int)) 97 122) (trivial) rfl (Ws 1 [] [0, 3, 15] ⟨[(0, S s1), (3, I i44), (15, B (!(spec_inRange (w64 ((s1.getD i44.toNat 0).toNat : Int)) 97 122)))], []⟩ (Wnt ((iteO_e h (fun hb62 h => W_true rfl hb62 ?_) (fun hb62 h => W_false rfl hb62 ?_)))))))))))))))
     ·refine Wsr ((Ws 1 [] [2] ⟨[(2, B false)], []⟩ (Wnt ((W_ret (blockS_r (thenS_r (thenS_r ?_))))))))
      cases h
      exact aI rfl rfl
     ·refine Ww [] [0, 3] ⟨[(0, S s1), (3, I i44)], []⟩ (W_skip (blockS_n (thenS_n (W_region (Wp 3 [] [0, 3] T2 ⟨[(0, S s1), (3, I (w64 (i44 + 1)))], []⟩ t2 (Wnt (?_)))))))
      exact ih _ h
    ·refine Ww [] [0] ⟨[(0, S s1)], []⟩ (W_exit (thenS_e (thenS_e ?_)))
     cases h
     exact aI rfl rfl

def spec_validName (n : Nat) (s1 : Str) : Option (Bool) :=
 bindO (spec_validName_L1 s1 n 0) fun v63 =>
 match v63 with
 | (.inl _) => (some false)
 | (.inr _) => (some (spec_inRange ((s1.length : Nat) : Int) 1 4))


theorem spec_validName_ok (n : Nat) (s1 : Str) (b32 : Bool) (h : spec_validName n s1 = some b32) : FOk EE 108 [S s1] [] (B b32) [] := by
  unfold spec_validName at h
  refine FOk_of_W 19 0 Tryz.func108 rfl rfl (Nat.le_of_ble_eq_true rfl) rfl (fun w X θ => ?_)
  refine Wsr ((Ws 1 [] [0] ⟨[(0, S s1)], []⟩ (Wnt ((W_seq (W_seq ?_))))))
  refine W_region (Ws 1 [] [0, 3] ⟨[(0, S s1), (3, I 0)], []⟩ (Wnt ((W_block (W_loop (bindO_e h (fun v63 hv63 h => ?_)))))))
  refine WL_cut (spec_validName_L1_ok w X θ s1 v63 n 0 hv63) ?_
  rcases v63 with _ | _
  ·rintro _ _ ⟨rfl, rfl⟩
   refine blockS_r (thenS_r ?_)
   cases h
   exact ⟨[], True, by kernel_rfl, trivial⟩
  ·rintro _ _ ⟨rfl, rfl⟩
   refine blockS_y (thenS_n (Wsr ((Wp 2 [] [17] T2 ⟨[(17, I (lI s1))], []⟩ t2 (Wc [] rfl rfl rfl Tryz.func71 rfl (spec_inRange_ok (lI s1) 1 4) (trivial) rfl (Ws 1 [] [2] ⟨[(2, B (spec_inRange (lI s1) 1 4))], []⟩ (Wnt ((W_ret ?_)))))))))
   cases h
   exact ⟨[], True, by kernel_rfl, trivial⟩

/- spec.kid -/
def spec_kid_L1 (x1 : List Nod) (i2 : Int) (s3 : Str) : Nat → Int → Option ((Int) ⊕ (Unit))
| 0, _ => none
| n + 1, i97 =>
 iteO (decide (i97 < ((x1.length : Nat) : Int)))
 (guardO (0 ≤ i97 ∧ i97 < ((x1.length : Nat) : Int)) <|
 bindO (iteO (decide (((x1.getD i97.toNat dnod).parent) = i2))
 (guardO (0 ≤ i97 ∧ i97 < ((x1.length : Nat) : Int)) <|
 some (decide (((x1.getD i97.toNat dnod).name) = s3)))
 (some false)) fun b135 =>
 iteO b135
 (some (.inl i97))
 (spec_kid_L1 x1 i2 s3 n (w64 (i97 + 1))))
 (some (.inr ()))

theorem spec_kid_L1_ok (w : World) (X : Nat → Prop) (θ : List Loc) (x1 : List Nod) (i2 : Int) (s3 : Str) (v : (Int) ⊕ (Unit)) : ∀ (n : Nat) (i97 : Int), spec_kid_L1 x1 i2 s3 n i97 = some v → WL EE ⟨w, X, θ, 31, 1⟩ (subC [1, 0, 1, 4, 4] (bodyC Tryz.f109)) (fun (e : Exit) (s : St) => (match v with | (.inl i119) => e = .ret ∧ s = ⟨[(6, I i119)], [nR x1]⟩ | (.inr _) => e = .exit 0 ∧ s = ⟨[], [nR x1]⟩ : Prop)) ⟨[(0, sF 0 x1), (1, I i2), (2, S s3), (7, I i97)], [nR x1]⟩ := by
  intro n
  induction n with
  | zero => intro _ h; exact none_e h
  | succ n ih =>
    intro i97 h
    rw [spec_kid_L1] at h
    refine WL_round ?_
    refine W_seq (Wsr ((Wp 4 [0] [0, 1, 2, 7, 11] T3 ⟨[(0, sF 0 x1), (1, I i2), (2, S s3), (7, I i97), (11, B (decide (i97 < (lI x1))))], [nR x1]⟩ t3 (Wnt ((iteO_e h (fun hb122 h => W_true rfl hb122 ?_) (fun hb122 h => W_false rfl hb122 ?_)))))))
    ·refine Ww [0] [0, 1, 2, 7] ⟨[(0, sF 0 x1), (1, I i2), (2, S s3), (7, I i97)], [nR x1]⟩ (W_skip (thenS_n (W_seq (W_block (Wsr ((guardO_e h (fun hg132 h => (Wp 8 [0] [0, 1, 2, 7, 21] ((0 ≤ i97 ∧ i97 < (lI x1)) ∧ T3) ⟨[(0, sF 0 x1), (1, I i2), (2, S s3), (7, I i97), (21, B (decide (((x1.getD i97.toNat dnod).parent) = i2)))], [nR x1]⟩ ⟨hg132, trivial, trivial, trivial⟩ (bindO_e h (fun b135 hv136 h => (WO_thru ⟨[(0, sF 0 x1), (1, I i2), (2, S s3), (7, I i97), (29, B b135)], [nR x1]⟩ ?_ ?_))))))))))))
     ·refine iteO_e hv136 (fun hb137 hv136 => WO_known 21 true rfl hb137 ?_) (fun hb137 hv136 => WO_known 21 false rfl hb137 ?_)
      ·refine guardO_e hv136 (fun hg138 hv136 => (Wp 8 [0] [0, 1, 2, 7, 29] ((0 ≤ i97 ∧ i97 < (lI x1)) ∧ T3) ⟨[(0, sF 0 x1), (1, I i2), (2, S s3), (7, I i97), (29, B (decide (((x1.getD i97.toNat dnod).name) = s3)))], [nR x1]⟩ ⟨hg138, trivial, trivial, trivial⟩ ?_))
       cases hv136
       exact WO_nil rfl ⟨rfl, rfl⟩
      ·refine Ws 8 [0] [0, 1, 2, 7, 29] ⟨[(0, sF 0 x1), (1, I i2), (2, S s3), (7, I i97), (29, B false)], [nR x1]⟩ ?_
       cases hv136
       exact WO_nil rfl ⟨rfl, rfl⟩
     ·refine thenS_n (iteO_e h (fun hb140 h => W_true rfl hb140 ?_) (fun hb140 h => W_false rfl hb140 ?_))
      ·refine Wsr ((Ws 2 [0] [6] ⟨[(6, I i97)], [nR x1]⟩ (Wnt ((W_ret (blockS_r (thenS_r (thenS_r ?_))))))))
       cases h
       exact aI rfl rfl
      ·refine Ww [0] [0, 1, 2, 7] ⟨[(0, sF 0 x1), (1, I i2), (2, S s3), (7, I i97)], [nR x1]⟩ (W_skip (blockS_n (thenS_n (W_region (Wp 3 [0] [0, 1, 2, 7] T2 ⟨[(0, sF 0 x1), (1, I i2), (2, S s3), (7, I (w64 (i97 + 1)))], [nR x1]⟩ t2 (Wnt (?_)))))))
       exact ih _ h
    ·refine Ww [0] [] ⟨[], [nR x1]⟩ (W_exit (thenS_e (thenS_e ?_)))
     cases h
     exact aI rfl rfl

def spec_kid (n : Nat) (x1 : List Nod) (i2 : Int) (s3 : Str) : Option (Int) :=
 bindO (spec_kid_L1 x1 i2 s3 n 1) fun v141 =>
 match v141 with
 | (.inl i119) => (some i119)
 | (.inr _) => (some (-1))


theorem spec_kid_ok (n : Nat) (x1 : List Nod) (i2 : Int) (s3 : Str) (i72 : Int) (h : spec_kid n x1 i2 s3 = some i72) : FOk EE 109 [sF 0 x1, I i2, S s3] [nR x1] (I i72) [nR x1] := by
  unfold spec_kid at h
  refine FOk_of_W 31 1 Tryz.func109 rfl rfl (Nat.le_of_ble_eq_true rfl) rfl (fun w X θ => ?_)
  refine Wsr ((Ws 1 [0] [0, 1, 2] ⟨[(0, sF 0 x1), (1, I i2), (2, S s3)], [nR x1]⟩ (Wnt ((W_seq (W_seq ?_))))))
  refine W_region (Ws 1 [0] [0, 1, 2, 7] ⟨[(0, sF 0 x1), (1, I i2), (2, S s3), (7, I 1)], [nR x1]⟩ (Wnt ((W_block (W_loop (bindO_e h (fun v141 hv141 h => ?_)))))))
  refine WL_cut (spec_kid_L1_ok w X θ x1 i2 s3 v141 n 1 hv141) ?_
  rcases v141 with i119 | _
  ·rintro _ _ ⟨rfl, rfl⟩
   refine blockS_r (thenS_r ?_)
   cases h
   exact ⟨[0], True, by kernel_rfl, trivial⟩
  ·rintro _ _ ⟨rfl, rfl⟩
   refine blockS_y (thenS_n (Wsr ((Ws 1 [0] [6] ⟨[(6, I (-1))], [nR x1]⟩ (Wnt ((W_ret ?_)))))))
   cases h
   exact ⟨[0], True, by kernel_rfl, trivial⟩

/- spec.depth -/
def spec_depth_L1 (x1 : List Nod) : Nat → Int → Int → Option (Int)
| 0, _, _ => none
| n + 1, i42, i43 =>
 guardO (0 ≤ i42 ∧ i42 < ((x1.length : Nat) : Int)) <|
 iteO (decide (0 ≤ ((x1.getD i42.toNat dnod).parent)))
 (guardO (0 ≤ i42 ∧ i42 < ((x1.length : Nat) : Int)) <|
 spec_depth_L1 x1 n ((x1.getD i42.toNat dnod).parent) (w64 (i43 + 1)))
 (some i43)

theorem spec_depth_L1_ok (w : World) (X : Nat → Prop) (θ : List Loc) (x1 : List Nod) (i51 : Int) : ∀ (n : Nat) (i42 : Int) (i43 : Int), spec_depth_L1 x1 n i42 i43 = some i51 → WL EE ⟨w, X, θ, 20, 1⟩ (subC [1, 1, 0, 4, 4] (bodyC Tryz.f110)) (fun (e : Exit) (s : St) => e = .exit 0 ∧ s = ⟨[(5, I i51)], [nR x1]⟩) ⟨[(0, sF 0 x1), (1, I i42), (5, I i43)], [nR x1]⟩ := by
  intro n
  induction n with
  | zero => intro _ _ h; exact none_e h
  | succ n ih =>
    intro i42 i43 h
    rw [spec_depth_L1] at h
    refine WL_round ?_
    refine W_seq (Wsr ((guardO_e h (fun hg53 h => (Wp 6 [0] [0, 1, 5, 11] ((0 ≤ i42 ∧ i42 < (lI x1)) ∧ T3) ⟨[(0, sF 0 x1), (1, I i42), (5, I i43), (11, B (decide (0 ≤ ((x1.getD i42.toNat dnod).parent))))], [nR x1]⟩ ⟨hg53, trivial, trivial, trivial⟩ (Wnt (?_)))))))
    refine iteO_e h (fun hb55 h => W_true rfl hb55 ?_) (fun hb55 h => W_false rfl hb55 ?_)
    ·refine Ww [0] [0, 1, 5] ⟨[(0, sF 0 x1), (1, I i42), (5, I i43)], [nR x1]⟩ (W_skip (thenS_n (W_block (Wsr ((guardO_e h (fun hg57 h => (Wp 6 [0] [0, 1, 5] ((0 ≤ i42 ∧ i42 < (lI x1)) ∧ T2) ⟨[(0, sF 0 x1), (1, I ((x1.getD i42.toNat dnod).parent)), (5, I i43)], [nR x1]⟩ ⟨hg57, trivial, trivial⟩ (Wnt ((W_region (Wp 3 [0] [0, 1, 5] T2 ⟨[(0, sF 0 x1), (1, I ((x1.getD i42.toNat dnod).parent)), (5, I (w64 (i43 + 1)))], [nR x1]⟩ t2 (WO_nil rfl (blockS_n (thenS_n ?_)))))))))))))))
     exact ih _ _ h
    ·refine Ww [0] [5] ⟨[(5, I i43)], [nR x1]⟩ (W_exit (thenS_e (thenS_e ?_)))
     cases h
     exact aI rfl rfl

def spec_depth (n : Nat) (x1 : List Nod) (i2 : Int) : Option (Int) :=
 bindO (spec_depth_L1 x1 n i2 0) fun i51 =>
 some i51

theorem spec_depth_ok (n : Nat) (x1 : List Nod) (i2 : Int) (i30 : Int) (h : spec_depth n x1 i2 = some i30) : FOk EE 110 [sF 0 x1, I i2] [nR x1] (I i30) [nR x1] := by
  unfold spec_depth at h
  refine FOk_of_W 20 1 Tryz.func110 rfl rfl (Nat.le_of_ble_eq_true rfl) rfl (fun w X θ => ?_)
  refine Wsr ((Ws 1 [0] [0, 1] ⟨[(0, sF 0 x1), (1, I i2)], [nR x1]⟩ (Wnt ((W_seq (W_region ?_))))))
  refine Ws 1 [0] [0, 1, 5] ⟨[(0, sF 0 x1), (1, I i2), (5, I 0)], [nR x1]⟩ (Wnt ((W_seq (W_block (W_loop (bindO_e h (fun i51 hi51 h => ?_)))))))
  refine WL_cut (spec_depth_L1_ok w X θ x1 i51 n i2 0 hi51) ?_
  rintro _ _ ⟨rfl, rfl⟩
  refine blockS_y (thenS_n (Wsr ((Ws 2 [0] [4] ⟨[(4, I i51)], [nR x1]⟩ (Wnt (?_))))))
  refine W_ret ?_
  cases h
  exact ⟨[0], True, by kernel_rfl, trivial⟩

/- spec.validNode -/
def spec_validNode (n : Nat) (x1 : List Nod) (i2 : Int) : Option (Bool) :=
 guardO (0 ≤ i2 ∧ i2 < ((x1.length : Nat) : Int)) <|
 iteO (!(spec_inRange ((x1.getD i2.toNat dnod).value) (-1000) 1000))
 (some false)
 (iteO (decide (i2 = 0))
 (guardO (0 ≤ i2 ∧ i2 < ((x1.length : Nat) : Int)) <|
 bindO (iteO (decide (((x1.getD i2.toNat dnod).parent) = (-1)))
 (guardO (0 ≤ i2 ∧ i2 < ((x1.length : Nat) : Int)) <|
 some (decide (((x1.getD i2.toNat dnod).name) = [])))
 (some false)) fun b54 =>
 some b54)
 (guardO (0 ≤ i2 ∧ i2 < ((x1.length : Nat) : Int)) <|
 bindO (iteO (spec_inRange ((x1.getD i2.toNat dnod).parent) 0 (w64 (i2 - 1)))
 (guardO (0 ≤ i2 ∧ i2 < ((x1.length : Nat) : Int)) <|
 bindO (spec_validName n ((x1.getD i2.toNat dnod).name)) fun b61 =>
 iteO b61
 (guardO (0 ≤ i2 ∧ i2 ≤ ((x1.length : Nat) : Int)) <|
 guardO (0 ≤ i2 ∧ i2 < ((x1.length : Nat) : Int)) <|
 guardO (0 ≤ i2 ∧ i2 < ((x1.length : Nat) : Int)) <|
 bindO (spec_kid n ((x1.drop 0).take i2.toNat) ((x1.getD i2.toNat dnod).parent) ((x1.getD i2.toNat dnod).name)) fun i67 =>
 iteO (decide (i67 < 0))
 (bindO (spec_depth n x1 i2) fun i70 =>
 some (decide (i70 ≤ 4)))
 (some false))
 (some false))
 (some false)) fun b72 =>
 some b72))

theorem spec_validNode_ok (n : Nat) (x1 : List Nod) (i2 : Int) (b38 : Bool) (h : spec_validNode n x1 i2 = some b38) : FOk EE 73 [sF 0 x1, I i2] [nR x1] (B b38) [nR x1] := by
  unfold spec_validNode at h
  refine FOk_of_W 67 1 Tryz.func73 rfl rfl (Nat.le_of_ble_eq_true rfl) rfl (fun w X θ => ?_)
  refine Wsr ((Ws 1 [0] [0, 1] ⟨[(0, sF 0 x1), (1, I i2)], [nR x1]⟩ (Wnt ((W_seq (W_seq ?_))))))
  refine W_region (guardO_e h (fun hg39 h => (Wp 5 [0] [0, 1, 9] ((0 ≤ i2 ∧ i2 < (lI x1)) ∧ T2) ⟨[(0, sF 0 x1), (1, I i2), (9, I ((x1.getD i2.toNat dnod).value))], [nR x1]⟩ ⟨hg39, trivial, trivial⟩ (Wc [] rfl rfl rfl Tryz.func71 rfl (spec_inRange_ok ((x1.getD i2.toNat dnod).value) (-1000) 1000) (trivial) rfl (Ws 1 [0] [0, 1, 11] ⟨[(0, sF 0 x1), (1, I i2), (11, B (!(spec_inRange ((x1.getD i2.toNat dnod).value) (-1000) 1000)))], [nR x1]⟩ (Wnt (?_)))))))
  refine iteO_e h (fun hb41 h => W_true rfl hb41 ?_) (fun hb41 h => W_false rfl hb41 ?_)
  ·refine Wsr ((Ws 1 [0] [4] ⟨[(4, B false)], [nR x1]⟩ (Wnt ((W_ret (thenS_r ?_))))))
   cases h
   exact ⟨[0], True, by kernel_rfl, trivial⟩
  ·refine Ww [0] [0, 1] ⟨[(0, sF 0 x1), (1, I i2)], [nR x1]⟩ (W_skip (thenS_n (W_seq (Wsr ((Wp 2 [0] [0, 1, 13] T2 ⟨[(0, sF 0 x1), (1, I i2), (13, B (decide (i2 = 0)))], [nR x1]⟩ t2 (Wnt ((iteO_e h (fun hb50 h => W_true rfl hb50 ?_) (fun hb50 h => W_false rfl hb50 ?_))))))))))
   ·refine Wsr ((guardO_e h (fun hg51 h => (Wp 7 [0] [0, 1, 20] ((0 ≤ i2 ∧ i2 < (lI x1)) ∧ T3) ⟨[(0, sF 0 x1), (1, I i2), (20, B (decide (((x1.getD i2.toNat dnod).parent) = (-1))))], [nR x1]⟩ ⟨hg51, trivial, trivial, trivial⟩ (bindO_e h (fun b54 hv55 h => (WO_thru ⟨[(4, B b54)], [nR x1]⟩ ?_ ?_)))))))
    ·refine iteO_e hv55 (fun hb56 hv55 => WO_known 20 true rfl hb56 ?_) (fun hb56 hv55 => WO_known 20 false rfl hb56 ?_)
     ·refine guardO_e hv55 (fun hg57 hv55 => (Wp 8 [0] [4] ((0 ≤ i2 ∧ i2 < (lI x1)) ∧ T3) ⟨[(4, B (decide (((x1.getD i2.toNat dnod).name) = [])))], [nR x1]⟩ ⟨hg57, trivial, trivial, trivial⟩ ?_))
      cases hv55
      exact WO_nil rfl ⟨rfl, rfl⟩
     ·refine Ws 8 [0] [4] ⟨[(4, B false)], [nR x1]⟩ ?_
      cases hv55
      exact WO_nil rfl ⟨rfl, rfl⟩
    ·refine thenS_n (W_ret (thenS_r ?_))
     cases h
     exact ⟨[0], True, by kernel_rfl, trivial⟩
   ·refine Ww [0] [0, 1] ⟨[(0, sF 0 x1), (1, I i2)], [nR x1]⟩ (W_skip (thenS_n (W_seq (guardO_e h (fun hg58 h => (bindO_e h (fun b72 hv73 h => (W_cut (Q' := fun (e : Exit) (s : St) => e = .normal ∧ s = ⟨[(4, B b72)], [nR x1]⟩) ?_ ?_))))))))
    ·refine iteO_e hv73 (fun hb59 hv73 => ?_) (fun hb59 hv73 => ?_)
     ·refine guardO_e hv73 (fun hg60 hv73 => (bindO_e hv73 (fun b61 hc62 hv73 => (iteO_e hv73 (fun hb63 hv73 => ?_) (fun hb63 hv73 => ?_)))))
      ·refine guardO_e hv73 (fun hg64 hv73 => (guardO_e hv73 (fun hg65 hv73 => (guardO_e hv73 (fun hg66 hv73 => (bindO_e hv73 (fun i67 hc68 hv73 => (iteO_e hv73 (fun hb69 hv73 => ?_) (fun hb69 hv73 => ?_)))))))))
       ·refine bindO_e hv73 (fun i70 hc71 hv73 => (W_draw [] false (by kernel_rfl) (by kernel_rfl) (WD_takeQ [0, 1, 2, 3, 4, 5, 6] [0, 1, 32, 34] [0, 1, 32, 34] (φ := ((0 ≤ i2 ∧ i2 < (lI x1)) ∧ (0 ≤ i2 ∧ i2 < (lI x1)) ∧ (True ∧ True ∧ (True ∧ True ∧ True)))) (ls' := (tf true [7, 33])) (st' := ⟨[(0, sF 0 x1), (1, I i2), (32, I ((x1.getD i2.toNat dnod).parent)), (34, I (w64 (i2 - 1)))], [nR x1]⟩) (n2 := 33) (by kernel_rfl) ⟨hg58, hg58, trivial, trivial, trivial, trivial, trivial⟩ rfl (WD_all [7] (n := 32) (by kernel_rfl) rfl (WM_call [] Tryz.f71 rfl rfl (by kernel_rfl) Tryz.func71 rfl (by kernel_rfl) (spec_inRange_ok ((x1.getD i2.toNat dnod).parent) 0 (w64 (i2 - 1))) (trivial) rfl (aI rfl (trivial)) (WD_takeQ [8] [0, 1, 36] [0, 1, 36] (φ := True) (ls' := (tf true [9, 31])) (st' := ⟨[(0, sF 0 x1), (1, I i2), (36, B (spec_inRange ((x1.getD i2.toNat dnod).parent) 0 (w64 (i2 - 1))))], [nR x1]⟩) (n2 := 31) (by kernel_rfl) trivial rfl (WD_known 36 true rfl rfl hb59 (WD_takeQ [9, 10, 11, 12, 13] [0, 1, 36, 41] [0, 1, 36, 41] (φ := ((0 ≤ i2 ∧ i2 < (lI x1)) ∧ (0 ≤ i2 ∧ i2 < (lI x1)) ∧ (True ∧ True ∧ True))) (ls' := (tf true [14, 26])) (st' := ⟨[(0, sF 0 x1), (1, I i2), (36, B true), (41, S ((x1.getD i2.toNat dnod).name))], [nR x1]⟩) (n2 := 26) (by kernel_rfl) ⟨hg60, hg60, trivial, trivial, trivial⟩ rfl (WD_all [14] (n := 25) (by kernel_rfl) rfl (WM_call [] Tryz.f108 rfl rfl (by kernel_rfl) Tryz.func108 rfl (by kernel_rfl) (spec_validName_ok n ((x1.getD i2.toNat dnod).name) b61 hc62) (trivial) rfl (aI rfl (trivial)) (WD_takeQ [15, 16] [0, 1, 44] [0, 1, 44] (φ := True) (ls' := (tf true [17, 23])) (st' := ⟨[(0, sF 0 x1), (1, I i2), (44, B b61)], [nR x1]⟩) (n2 := 23) (by kernel_rfl) trivial rfl (WD_known 44 true rfl rfl hb63 (WD_takeQ [17, 18, 20, 21, 22, 23, 24, 25, 26, 27, 28, 29] [0, 1, 44, 45, 46, 52, 57] [0, 1, 44, 45, 46, 52, 57] (φ := ((0 ≤ i2 ∧ i2 < (lI x1)) ∧ (0 ≤ i2 ∧ i2 < (lI x1)) ∧ (True ∧ True ∧ ((0 ≤ i2 ∧ i2 < (lI x1)) ∧ (0 ≤ i2 ∧ i2 < (lI x1)) ∧ (True ∧ True ∧ True))))) (ls' := (tf true [19, 1, 10, 10])) (st' := ⟨[(0, sF 0 x1), (1, I i2), (44, B true), (45, sF 0 x1), (46, I i2), (52, I ((x1.getD i2.toNat dnod).parent)), (57, S ((x1.getD i2.toNat dnod).name))], [nR x1]⟩) (n2 := 11) (by kernel_rfl) ⟨hg65, hg65, trivial, trivial, hg66, hg66, trivial, trivial, trivial⟩ rfl (WD_all [19] (n := 10) (by kernel_rfl) rfl (WM_op (φ := 0 ≤ i2 ∧ i2 ≤ (lI x1)) (v := .one (.e (.sl 0 0 i2.toNat))) (H' := [nR x1]) rfl rfl (by kernel_rfl) hg64 rfl (aI rfl (trivial)) (WD_all [30] (n := 9) (by kernel_rfl) rfl (WM_call [.view 0] Tryz.f109 rfl rfl (by kernel_rfl) Tryz.func109 rfl (by kernel_rfl) (spec_kid_ok n ((x1.drop 0).take i2.toNat) ((x1.getD i2.toNat dnod).parent) ((x1.getD i2.toNat dnod).name) i67 hc68) (trivial) rfl (aI rfl (trivial)) (WD_takeQ [31, 32, 33] [0, 1, 61] [0, 1, 61] (φ := (True ∧ True ∧ True)) (ls' := (tf true [34, 6])) (st' := ⟨[(0, sF 0 x1), (1, I i2), (61, B (decide (i67 < 0)))], [nR x1]⟩) (n2 := 6) (by kernel_rfl) t3 rfl (WD_known 61 true rfl rfl hb69 (WD_takeQ [34, 35] [61, 62, 63] [61, 62, 63] (φ := True) (ls' := (tf true [36, 4])) (st' := ⟨[(61, B true), (62, sF 0 x1), (63, I i2)], [nR x1]⟩) (n2 := 4) (by kernel_rfl) trivial rfl (WD_all [36] (n := 3) (by kernel_rfl) rfl (WM_call [.ro 0] Tryz.f110 rfl rfl (by kernel_rfl) Tryz.func110 rfl (by kernel_rfl) (spec_depth_ok n x1 i2 i70 hc71) (aI (aI rfl rfl) (trivial)) rfl (aI rfl (trivial)) (WD_takeQ [37, 38, 39] [4] [4] (φ := (True ∧ True ∧ True)) (ls' := (tf true [40])) (st' := ⟨[(4, B (decide (i70 ≤ 4)))], [nR x1]⟩) (n2 := 0) (by kernel_rfl) t3 rfl ?_)))))))))))))))))))))))
        exact WD_done [0] [4] (st' := ⟨[(4, B (decide (i70 ≤ 4)))], [nR x1]⟩) (by kernel_rfl) (by kernel_rfl) (aI rfl (by cases hv73; rfl))
       ·refine W_draw [] false (by kernel_rfl) (by kernel_rfl) (WD_takeQ [0, 1, 2, 3, 4, 5, 6] [0, 1, 32, 34] [0, 1, 32, 34] (φ := ((0 ≤ i2 ∧ i2 < (lI x1)) ∧ (0 ≤ i2 ∧ i2 < (lI x1)) ∧ (True ∧ True ∧ (True ∧ True ∧ True)))) (ls' := (tf true [7, 33])) (st' := ⟨[(0, sF 0 x1), (1, I i2), (32, I ((x1.getD i2.toNat dnod).parent)), (34, I (w64 (i2 - 1)))], [nR x1]⟩) (n2 := 33) (by kernel_rfl) ⟨hg58, hg58, trivial, trivial, trivial, trivial, trivial⟩ rfl (WD_all [7] (n := 32) (by kernel_rfl) rfl (WM_call [] Tryz.f71 rfl rfl (by kernel_rfl) Tryz.func71 rfl (by kernel_rfl) (spec_inRange_ok ((x1.getD i2.toNat dnod).parent) 0 (w64 (i2 - 1))) (trivial) rfl (aI rfl (trivial)) (WD_takeQ [8] [0, 1, 36] [0, 1, 36] (φ := True) (ls' := (tf true [9, 31])) (st' := ⟨[(0, sF 0 x1), (1, I i2), (36, B (spec_inRange ((x1.getD i2.toNat dnod).parent) 0 (w64 (i2 - 1))))], [nR x1]⟩) (n2 := 31) (by kernel_rfl) trivial rfl (WD_known 36 true rfl rfl hb59 (WD_takeQ [9, 10, 11, 12, 13] [0, 1, 36, 41] [0, 1, 36, 41] (φ := ((0 ≤ i2 ∧ i2 < (lI x1)) ∧ (0 ≤ i2 ∧ i2 < (lI x1)) ∧ (True ∧ True ∧ True))) (ls' := (tf true [14, 26])) (st' := ⟨[(0, sF 0 x1), (1, I i2), (36, B true), (41, S ((x1.getD i2.toNat dnod).name))], [nR x1]⟩) (n2 := 26) (by kernel_rfl) ⟨hg60, hg60, trivial, trivial, trivial⟩ rfl (WD_all [14] (n := 25) (by kernel_rfl) rfl (WM_call [] Tryz.f108 rfl rfl (by kernel_rfl) Tryz.func108 rfl (by kernel_rfl) (spec_validName_ok n ((x1.getD i2.toNat dnod).name) b61 hc62) (trivial) rfl (aI rfl (trivial)) (WD_takeQ [15, 16] [0, 1, 44] [0, 1, 44] (φ := True) (ls' := (tf true [17, 23])) (st' := ⟨[(0, sF 0 x1), (1, I i2), (44, B b61)], [nR x1]⟩) (n2 := 23) (by kernel_rfl) trivial rfl (WD_known 44 true rfl rfl hb63 (WD_takeQ [17, 18, 20, 21, 22, 23, 24, 25, 26, 27, 28, 29] [0, 1, 44, 45, 46, 52, 57] [0, 1, 44, 45, 46, 52, 57] (φ := ((0 ≤ i2 ∧ i2 < (lI x1)) ∧ (0 ≤ i2 ∧ i2 < (lI x1)) ∧ (True ∧ True ∧ ((0 ≤ i2 ∧ i2 < (lI x1)) ∧ (0 ≤ i2 ∧ i2 < (lI x1)) ∧ (True ∧ True ∧ True))))) (ls' := (tf true [19, 1, 10, 10])) (st' := ⟨[(0, sF 0 x1), (1, I i2), (44, B true), (45, sF 0 x1), (46, I i2), (52, I ((x1.getD i2.toNat dnod).parent)), (57, S ((x1.getD i2.toNat dnod).name))], [nR x1]⟩) (n2 := 11) (by kernel_rfl) ⟨hg65, hg65, trivial, trivial, hg66, hg66, trivial, trivial, trivial⟩ rfl (WD_all [19] (n := 10) (by kernel_rfl) rfl (WM_op (φ := 0 ≤ i2 ∧ i2 ≤ (lI x1)) (v := .one (.e (.sl 0 0 i2.toNat))) (H' := [nR x1]) rfl rfl (by kernel_rfl) hg64 rfl (aI rfl (trivial)) (WD_all [30] (n := 9) (by kernel_rfl) rfl (WM_call [.view 0] Tryz.f109 rfl rfl (by kernel_rfl) Tryz.func109 rfl (by kernel_rfl) (spec_kid_ok n ((x1.drop 0).take i2.toNat) ((x1.getD i2.toNat dnod).parent) ((x1.getD i2.toNat dnod).name) i67 hc68) (trivial) rfl (aI rfl (trivial)) (WD_takeQ [31, 32, 33] [0, 1, 61] [0, 1, 61] (φ := (True ∧ True ∧ True)) (ls' := (tf true [34, 6])) (st' := ⟨[(0, sF 0 x1), (1, I i2), (61, B (decide (i67 < 0)))], [nR x1]⟩) (n2 := 6) (by kernel_rfl) t3 rfl (WD_known 61 false rfl rfl hb69 (WD_takeQ [34, 35, 36, 37, 38, 39] [4] [4] (φ := True) (ls' := (tf true [40])) (st' := ⟨[(4, B false)], [nR x1]⟩) (n2 := 0) (by kernel_rfl) trivial rfl ?_))))))))))))))))))
        exact WD_done [0] [4] (st' := ⟨[(4, B false)], [nR x1]⟩) (by kernel_rfl) (by kernel_rfl) (aI rfl (by cases hv73; rfl))
      ·refine W_draw [] false (by kernel_rfl) (by kernel_rfl) (WD_takeQ [0, 1, 2, 3, 4, 5, 6] [0, 1, 32, 34] [0, 1, 32, 34] (φ := ((0 ≤ i2 ∧ i2 < (lI x1)) ∧ (0 ≤ i2 ∧ i2 < (lI x1)) ∧ (True ∧ True ∧ (True ∧ True ∧ True)))) (ls' := (tf true [7, 33])) (st' := ⟨[(0, sF 0 x1), (1, I i2), (32, I ((x1.getD i2.toNat dnod).parent)), (34, I (w64 (i2 - 1)))], [nR x1]⟩) (n2 := 33) (by kernel_rfl) ⟨hg58, hg58, trivial, trivial, trivial, trivial, trivial⟩ rfl (WD_all [7] (n := 32) (by kernel_rfl) rfl (WM_call [] Tryz.f71 rfl rfl (by kernel_rfl) Tryz.func71 rfl (by kernel_rfl) (spec_inRange_ok ((x1.getD i2.toNat dnod).parent) 0 (w64 (i2 - 1))) (trivial) rfl (aI rfl (trivial)) (WD_takeQ [8] [0, 1, 36] [0, 1, 36] (φ := True) (ls' := (tf true [9, 31])) (st' := ⟨[(0, sF 0 x1), (1, I i2), (36, B (spec_inRange ((x1.getD i2.toNat dnod).parent) 0 (w64 (i2 - 1))))], [nR x1]⟩) (n2 := 31) (by kernel_rfl) trivial rfl (WD_known 36 true rfl rfl hb59 (WD_takeQ [9, 10, 11, 12, 13] [0, 1, 36, 41] [0, 1, 36, 41] (φ := ((0 ≤ i2 ∧ i2 < (lI x1)) ∧ (0 ≤ i2 ∧ i2 < (lI x1)) ∧ (True ∧ True ∧ True))) (ls' := (tf true [14, 26])) (st' := ⟨[(0, sF 0 x1), (1, I i2), (36, B true), (41, S ((x1.getD i2.toNat dnod).name))], [nR x1]⟩) (n2 := 26) (by kernel_rfl) ⟨hg60, hg60, trivial, trivial, trivial⟩ rfl (WD_all [14] (n := 25) (by kernel_rfl) rfl (WM_call [] Tryz.f108 rfl rfl (by kernel_rfl) Tryz.func108 rfl (by kernel_rfl) (spec_validName_ok n ((x1.getD i2.toNat dnod).name) b61 hc62) (trivial) rfl (aI rfl (trivial)) (WD_takeQ [15, 16] [0, 1, 44] [0, 1, 44] (φ := True) (ls' := (tf true [17, 23])) (st' := ⟨[(0, sF 0 x1), (1, I i2), (44, B b61)], [nR x1]⟩) (n2 := 23) (by kernel_rfl) trivial rfl (WD_known 44 false rfl rfl hb63 (WD_takeQ [17, 18, 19, 20, 21, 22, 23, 24, 25, 26, 27, 28, 29, 30, 31, 32, 33, 34, 35, 36, 37, 38, 39] [4] [4] (φ := True) (ls' := (tf true [40])) (st' := ⟨[(4, B false)], [nR x1]⟩) (n2 := 0) (by kernel_rfl) trivial rfl ?_)))))))))))
       exact WD_done [0] [4] (st' := ⟨[(4, B false)], [nR x1]⟩) (by kernel_rfl) (by kernel_rfl) (aI rfl (by cases hv73; rfl))
     ·refine W_draw [] false (by kernel_rfl) (by kernel_rfl) (WD_takeQ [0, 1, 2, 3, 4, 5, 6] [0, 1, 32, 34] [0, 1, 32, 34] (φ := ((0 ≤ i2 ∧ i2 < (lI x1)) ∧ (0 ≤ i2 ∧ i2 < (lI x1)) ∧ (True ∧ True ∧ (True ∧ True ∧ True)))) (ls' := (tf true [7, 33])) (st' := ⟨[(0, sF 0 x1), (1, I i2), (32, I ((x1.getD i2.toNat dnod).parent)), (34, I (w64 (i2 - 1)))], [nR x1]⟩) (n2 := 33) (by kernel_rfl) ⟨hg58, hg58, trivial, trivial, trivial, trivial, trivial⟩ rfl (WD_all [7] (n := 32) (by kernel_rfl) rfl (WM_call [] Tryz.f71 rfl rfl (by kernel_rfl) Tryz.func71 rfl (by kernel_rfl) (spec_inRange_ok ((x1.getD i2.toNat dnod).parent) 0 (w64 (i2 - 1))) (trivial) rfl (aI rfl (trivial)) (WD_takeQ [8] [0, 1, 36] [0, 1, 36] (φ := True) (ls' := (tf true [9, 31])) (st' := ⟨[(0, sF 0 x1), (1, I i2), (36, B (spec_inRange ((x1.getD i2.toNat dnod).parent) 0 (w64 (i2 - 1))))], [nR x1]⟩) (n2 := 31) (by kernel_rfl) trivial rfl (WD_known 36 false rfl rfl hb59 (WD_takeQ [9, 10, 11, 12, 13, 14, 15, 16, 17, 18, 19, 20, 21, 22, 23, 24, 25, 26, 27, 28, 29, 30, 31, 32, 33, 34, 35, 36, 37, 38, 39] [4] [4] (φ := True) (ls' := (tf true [40])) (st' := ⟨[(4, B false)], [nR x1]⟩) (n2 := 0) (by kernel_rfl) trivial rfl ?_))))))
      exact WD_done [0] [4] (st' := ⟨[(4, B false)], [nR x1]⟩) (by kernel_rfl) (by kernel_rfl) (aI rfl (by cases hv73; rfl))
    ·rintro _ _ ⟨rfl, rfl⟩
     refine thenS_n (W_ret ?_)
     cases h
     exact ⟨[0], True, by kernel_rfl, trivial⟩

/- spec.validTree -/
def spec_validTree_L1 (x1 : List Nod) : Nat → Int → Option ((Unit) ⊕ (Unit))
| 0, _ => none
| n + 1, i52 =>
 iteO (decide (i52 < ((x1.length : Nat) : Int)))
 (bindO (spec_validNode n x1 i52) fun b71 =>
 iteO (!b71)
 (some (.inl ()))
 (spec_validTree_L1 x1 n (w64 (i52 + 1))))
 (some (.inr ()))

theorem spec_validTree_L1_ok (w : World) (X : Nat → Prop) (θ : List Loc) (x1 : List Nod) (v : (Unit) ⊕ (Unit)) : ∀ (n : Nat) (i52 : Int), spec_validTree_L1 x1 n i52 = some v → WL EE ⟨w, X, θ, 17, 1⟩ (subC [1, 0, 1, 4, 4] (bodyC Tryz.f45)) (fun (e : Exit) (s : St) => (match v with | (.inl _) => e = .ret ∧ s = ⟨[(2, B false)], [nR x1]⟩ | (.inr _) => e = .exit 0 ∧ s = ⟨[(0, sF 0 x1)], [nR x1]⟩ : Prop)) ⟨[(0, sF 0 x1), (3, I i52)], [nR x1]⟩ := by
  intro n
  induction n with
  | zero => intro _ h; exact none_e h
  | succ n ih =>
    intro i52 h
    rw [spec_validTree_L1] at h
    refine WL_round ?_
    refine W_seq (Wsr ((Wp 4 [0] [0, 3, 7] T3 ⟨[(0, sF 0 x1), (3, I i52), (7, B (decide (i52 < (lI x1))))], [nR x1]⟩ t3 (Wnt ((iteO_e h (fun hb66 h => W_true rfl hb66 ?_) (fun hb66 h => W_false rfl hb66 ?_)))))))
    ·refine Ww [0] [0, 3] ⟨[(0, sF 0 x1), (3, I i52)], [nR x1]⟩ (W_skip (thenS_n (W_seq (W_block (Wsr ((Ws 2 [0] [0, 3, 10, 11] ⟨[(0, sF 0 x1), (3, I i52), (10, sF 0 x1), (11, I i52)], [nR x1]⟩ (bindO_e h (fun b71 hc72 h => (Wc [.ro 0] rfl rfl rfl Tryz.func73 rfl (spec_validNode_ok n x1 i52 b71 hc72) (aI (aI rfl rfl) (trivial)) rfl (Ws 1 [0] [0, 3, 13] ⟨[(0, sF 0 x1), (3, I i52), (13, B (!b71))], [nR x1]⟩ (Wnt ((iteO_e h (fun hb74 h => W_true rfl hb74 ?_) (fun hb74 h => W_false rfl hb74 ?_)))))))))))))))
     ·refine Wsr ((Ws 1 [0] [2] ⟨[(2, B false)], [nR x1]⟩ (Wnt ((W_ret (blockS_r (thenS_r (thenS_r ?_))))))))
      cases h
      exact aI rfl rfl
     ·refine Ww [0] [0, 3] ⟨[(0, sF 0 x1), (3, I i52)], [nR x1]⟩ (W_skip (blockS_n (thenS_n (W_region (Wp 3 [0] [0, 3] T2 ⟨[(0, sF 0 x1), (3, I (w64 (i52 + 1)))], [nR x1]⟩ t2 (Wnt (?_)))))))
      exact ih _ h
    ·refine Ww [0] [0] ⟨[(0, sF 0 x1)], [nR x1]⟩ (W_exit (thenS_e (thenS_e ?_)))
     cases h
     exact aI rfl rfl

def spec_validTree (n : Nat) (x1 : List Nod) : Option (Bool) :=
 bindO (spec_validTree_L1 x1 n 0) fun v75 =>
 match v75 with
 | (.inl _) => (some false)
 | (.inr _) => (some (spec_inRange ((x1.length : Nat) : Int) 1 12))


theorem spec_validTree_ok (n : Nat) (x1 : List Nod) (b38 : Bool) (h : spec_validTree n x1 = some b38) : FOk EE 45 [sF 0 x1] [nR x1] (B b38) [nR x1] := by
  unfold spec_validTree at h
  refine FOk_of_W 17 1 Tryz.func45 rfl rfl (Nat.le_of_ble_eq_true rfl) rfl (fun w X θ => ?_)
  refine Wsr ((Ws 1 [0] [0] ⟨[(0, sF 0 x1)], [nR x1]⟩ (Wnt ((W_seq (W_seq ?_))))))
  refine W_region (Ws 1 [0] [0, 3] ⟨[(0, sF 0 x1), (3, I 0)], [nR x1]⟩ (Wnt ((W_block (W_loop (bindO_e h (fun v75 hv75 h => ?_)))))))
  refine WL_cut (spec_validTree_L1_ok w X θ x1 v75 n 0 hv75) ?_
  rcases v75 with _ | _
  ·rintro _ _ ⟨rfl, rfl⟩
   refine blockS_r (thenS_r ?_)
   cases h
   exact ⟨[0], True, by kernel_rfl, trivial⟩
  ·rintro _ _ ⟨rfl, rfl⟩
   refine blockS_y (thenS_n (Wsr ((Wp 2 [0] [15] T2 ⟨[(15, I (lI x1))], [nR x1]⟩ t2 (Wc [] rfl rfl rfl Tryz.func71 rfl (spec_inRange_ok (lI x1) 1 12) (trivial) rfl (Ws 1 [0] [2] ⟨[(2, B (spec_inRange (lI x1) 1 12))], [nR x1]⟩ (Wnt ((W_ret ?_)))))))))
   cases h
   exact ⟨[0], True, by kernel_rfl, trivial⟩

/- spec.above -/
def spec_above_L1 (x1 : List Nod) (i2 : Int) : Nat → Int → Option (Int)
| 0, _ => none
| n + 1, i33 =>
 iteO (decide (i2 < i33))
 (guardO (0 ≤ i33 ∧ i33 < ((x1.length : Nat) : Int)) <|
 spec_above_L1 x1 i2 n ((x1.getD i33.toNat dnod).parent))
 (some i33)

theorem spec_above_L1_ok (w : World) (X : Nat → Prop) (θ : List Loc) (x1 : List Nod) (i2 : Int) (i39 : Int) : ∀ (n : Nat) (i33 : Int), spec_above_L1 x1 i2 n i33 = some i39 → WL EE ⟨w, X, θ, 18, 1⟩ (subC [1, 0, 4, 4] (bodyC Tryz.f173)) (fun (e : Exit) (s : St) => e = .exit 0 ∧ s = ⟨[(1, I i2), (2, I i39)], [nR x1]⟩) ⟨[(0, sF 0 x1), (1, I i2), (2, I i33)], [nR x1]⟩ := by
  intro n
  induction n with
  | zero => intro _ h; exact none_e h
  | succ n ih =>
    intro i33 h
    rw [spec_above_L1] at h
    refine WL_round ?_
    refine W_seq (Wsr ((Wp 3 [0] [0, 1, 2, 9] T2 ⟨[(0, sF 0 x1), (1, I i2), (2, I i33), (9, B (decide (i2 < i33)))], [nR x1]⟩ t2 (Wnt ((iteO_e h (fun hb42 h => W_true rfl hb42 ?_) (fun hb42 h => W_false rfl hb42 ?_)))))))
    ·refine Ww [0] [0, 1, 2] ⟨[(0, sF 0 x1), (1, I i2), (2, I i33)], [nR x1]⟩ (W_skip (thenS_n (W_block (W_region (guardO_e h (fun hg44 h => (Wp 6 [0] [0, 1, 2] ((0 ≤ i33 ∧ i33 < (lI x1)) ∧ T2) ⟨[(0, sF 0 x1), (1, I i2), (2, I ((x1.getD i33.toNat dnod).parent))], [nR x1]⟩ ⟨hg44, trivial, trivial⟩ (WO_nil rfl (blockS_n (thenS_n ?_))))))))))
     exact ih _ h
    ·refine Ww [0] [1, 2] ⟨[(1, I i2), (2, I i33)], [nR x1]⟩ (W_exit (thenS_e (thenS_e ?_)))
     cases h
     exact aI rfl rfl

def spec_above (n : Nat) (x1 : List Nod) (i2 : Int) (i3 : Int) : Option (Bool) :=
 bindO (spec_above_L1 x1 i2 n i3) fun i39 =>
 some (decide (i39 = i2))

theorem spec_above_ok (n : Nat) (x1 : List Nod) (i2 : Int) (i3 : Int) (b24 : Bool) (h : spec_above n x1 i2 i3 = some b24) : FOk EE 173 [sF 0 x1, I i2, I i3] [nR x1] (B b24) [nR x1] := by
  unfold spec_above at h
  refine FOk_of_W 18 1 Tryz.func173 rfl rfl (Nat.le_of_ble_eq_true rfl) rfl (fun w X θ => ?_)
  refine Wsr ((Ws 1 [0] [0, 1, 2] ⟨[(0, sF 0 x1), (1, I i2), (2, I i3)], [nR x1]⟩ (Wnt ((W_seq (W_block ?_))))))
  refine W_loop (bindO_e h (fun i39 hi39 h => (WL_cut (spec_above_L1_ok w X θ x1 i2 i39 n i3 hi39) ?_)))
  rintro _ _ ⟨rfl, rfl⟩
  refine blockS_y (thenS_n (Wsr ((Wp 4 [0] [6] T2 ⟨[(6, B (decide (i39 = i2)))], [nR x1]⟩ t2 (Wnt (?_))))))
  refine W_ret ?_
  cases h
  exact ⟨[0], True, by kernel_rfl, trivial⟩

/- spec.without -/
def spec_without_L1 (x1 : List Nod) (i2 : Int) : Nat → (List Nod) → (List Int) → Int → Option ((List Nod))
| 0, _, _, _ => none
| n + 1, x94, x95, i96 =>
 iteO (decide (i96 < ((x1.length : Nat) : Int)))
 (bindO (bindO (spec_above n x1 i2 i96) fun b134 =>
 iteO b134
 (some (x94, x95))
 (guardO (0 ≤ i96 ∧ i96 < ((x1.length : Nat) : Int)) <|
 bindO (iteO (decide (0 < i96))
 (guardO (0 ≤ (x1.getD i96.toNat dnod).parent ∧ (x1.getD i96.toNat dnod).parent < ((x95.length : Nat) : Int)) <|
 some (x95.getD (((x1.getD i96.toNat dnod).parent).toNat) 0))
 (some ((x1.getD i96.toNat dnod).parent))) fun i141 =>
 guardO (0 ≤ i96 ∧ i96 < ((x95.length : Nat) : Int)) <|
 guardO (0 = 0 ∧ x94.length = x94.length ∧ x94.length + (([(⟨i141, (x1.getD i96.toNat dnod).name, (x1.getD i96.toNat dnod).value⟩ : Nod)].drop 0).take ([(⟨i141, (x1.getD i96.toNat dnod).name, (x1.getD i96.toNat dnod).value⟩ : Nod)].length)).length ≤ 1099511627776) <|
 some ((x94 ++ (([(⟨i141, (x1.getD i96.toNat dnod).name, (x1.getD i96.toNat dnod).value⟩ : Nod)].drop 0).take ([(⟨i141, (x1.getD i96.toNat dnod).name, (x1.getD i96.toNat dnod).value⟩ : Nod)].length))), (x95.set i96.toNat ((x94.length : Nat) : Int))))) fun v133 =>
 match v133 with
 | (x131, x132) => (spec_without_L1 x1 i2 n x131 x132 (w64 (i96 + 1)))
)
 (some x94)

theorem spec_without_L1_ok (w : World) (X : Nat → Prop) (θ : List Loc) (x1 : List Nod) (i2 : Int) (x116 : (List Nod)) : ∀ (n : Nat) (x94 : List Nod) (x95 : List Int) (i96 : Int), spec_without_L1 x1 i2 n x94 x95 i96 = some x116 → WL EE ⟨w, X, θ, 45, 1⟩ (subC [1, 1, 1, 0, 1, 4, 4] (bodyC Tryz.f170)) (fun (e : Exit) (s : St) => e = .exit 0 ∧ s = ⟨[(5, sF 1 x116)], [nR x1, nO x116]⟩) ⟨[(0, sF 0 x1), (1, I i2), (5, sF 1 x94), (6, sF 2 x95), (7, I i96)], [nR x1, nO x94, iO x95]⟩ := by
  intro n
  induction n with
  | zero => intro _ _ _ h; exact none_e h
  | succ n ih =>
    intro x94 x95 i96 h
    rw [spec_without_L1] at h
    refine WL_round ?_
    refine W_seq (Wsr ((Wp 4 [0, 1, 2] [0, 1, 5, 6, 7, 16] T3 ⟨[(0, sF 0 x1), (1, I i2), (5, sF 1 x94), (6, sF 2 x95), (7, I i96), (16, B (decide (i96 < (lI x1))))], [nR x1, nO x94, iO x95]⟩ t3 (Wnt ((iteO_e h (fun hb119 h => W_true rfl hb119 ?_) (fun hb119 h => W_false rfl hb119 ?_)))))))
    ·refine Ww [0, 1, 2] [0, 1, 5, 6, 7] ⟨[(0, sF 0 x1), (1, I i2), (5, sF 1 x94), (6, sF 2 x95), (7, I i96)], [nR x1, nO x94, iO x95]⟩ (W_skip (thenS_n (W_seq (bindO_e h (fun v133 hv133 h => (W_cut (Q' := fun (e : Exit) (s : St) => (match v133 with | (x131, x132) => e = .normal ∧ s = ⟨[(0, sF 0 x1), (1, I i2), (5, sF 1 x131), (6, sF 2 x132), (7, I i96)], [nR x1, nO x131, iO x132]⟩ : Prop)) ?_ ?_))))))
     ·refine W_block (W_seq (Wsr ((Ws 3 [0, 1, 2] [0, 1, 5, 6, 7, 19, 20, 21] ⟨[(0, sF 0 x1), (1, I i2), (5, sF 1 x94), (6, sF 2 x95), (7, I i96), (19, sF 0 x1), (20, I i2), (21, I i96)], [nR x1, nO x94, iO x95]⟩ (bindO_e hv133 (fun b134 hc135 hv133 => (Wc [.ro 0] rfl rfl rfl Tryz.func173 rfl (spec_above_ok n x1 i2 i96 b134 hc135) (aI (aI rfl rfl) (trivial)) rfl (Wb [0, 1, 2] [0, 1, 5, 6, 7, 22] ⟨[(0, sF 0 x1), (1, I i2), (5, sF 1 x94), (6, sF 2 x95), (7, I i96), (22, B b134)], [nR x1, nO x94, iO x95]⟩ (Wnt ((iteO_e hv133 (fun hb137 hv133 => W_true rfl hb137 ?_) (fun hb137 hv133 => W_false rfl hb137 ?_))))))))))))
      ·refine Ww [0, 1, 2] [0, 1, 5, 6, 7] ⟨[(0, sF 0 x1), (1, I i2), (5, sF 1 x94), (6, sF 2 x95), (7, I i96)], [nR x1, nO x94, iO x95]⟩ (W_exit (thenS_e (blockS_y ?_)))
       cases hv133
       exact aI rfl rfl
      ·refine Ww [0, 1, 2] [0, 1, 5, 6, 7] ⟨[(0, sF 0 x1), (1, I i2), (5, sF 1 x94), (6, sF 2 x95), (7, I i96)], [nR x1, nO x94, iO x95]⟩ (W_skip (thenS_n (Wsr ((guardO_e hv133 (fun hg138 hv133 => (Wp 6 [0, 1, 2, 3] [0, 1, 5, 6, 7, 8] ((0 ≤ i96 ∧ i96 < (lI x1)) ∧ T4) ⟨[(0, sF 0 x1), (1, I i2), (5, sF 1 x94), (6, sF 2 x95), (7, I i96), (8, pA 3 0)], [nR x1, nO x94, iO x95, .cells [cI ((x1.getD i96.toNat dnod).parent), cS ((x1.getD i96.toNat dnod).name), cI ((x1.getD i96.toNat dnod).value)]]⟩ ⟨hg138, trivial, trivial, trivial, trivial⟩ (Wnt ((W_seq (Wsr ((Wp 2 [0, 1, 2, 3] [0, 1, 5, 6, 7, 8, 28] T2 ⟨[(0, sF 0 x1), (1, I i2), (5, sF 1 x94), (6, sF 2 x95), (7, I i96), (8, pA 3 0), (28, B (decide (0 < i96)))], [nR x1, nO x94, iO x95, .cells [cI ((x1.getD i96.toNat dnod).parent), cS ((x1.getD i96.toNat dnod).name), cI ((x1.getD i96.toNat dnod).value)]]⟩ t2 (Wnt ((bindO_e hv133 (fun i141 hi141 hv133 => (W_cut (Q' := fun (e : Exit) (s : St) => e = .normal ∧ s = ⟨[(0, sF 0 x1), (1, I i2), (5, sF 1 x94), (6, sF 2 x95), (7, I i96), (8, pA 3 0)], [nR x1, nO x94, iO x95, .cells [cI i141, cS ((x1.getD i96.toNat dnod).name), cI ((x1.getD i96.toNat dnod).value)]]⟩) ?_ ?_))))))))))))))))))
       ·refine iteO_e hi141 (fun hb143 hi141 => W_true rfl hb143 ?_) (fun hb143 hi141 => W_false rfl hb143 ?_)
        ·refine W_region (guardO_e hi141 (fun hg144 hi141 => (Wp 7 [0, 1, 2, 3] [0, 1, 5, 6, 7, 8] (True ∧ ((0 ≤ (x1.getD i96.toNat dnod).parent ∧ (x1.getD i96.toNat dnod).parent < (lI x95)) ∧ T3)) ⟨[(0, sF 0 x1), (1, I i2), (5, sF 1 x94), (6, sF 2 x95), (7, I i96), (8, pA 3 0)], [nR x1, nO x94, iO x95, .cells [cI (x95.getD (((x1.getD i96.toNat dnod).parent).toNat) 0), cS ((x1.getD i96.toNat dnod).name), cI ((x1.getD i96.toNat dnod).value)]]⟩ ⟨trivial, hg144, trivial, trivial, trivial⟩ (WO_nil rfl ?_))))
         cases hi141
         exact aI rfl rfl
        ·refine Ww [0, 1, 2, 3] [0, 1, 5, 6, 7, 8] ⟨[(0, sF 0 x1), (1, I i2), (5, sF 1 x94), (6, sF 2 x95), (7, I i96), (8, pA 3 0)], [nR x1, nO x94, iO x95, .cells [cI ((x1.getD i96.toNat dnod).parent), cS ((x1.getD i96.toNat dnod).name), cI ((x1.getD i96.toNat dnod).value)]]⟩ (W_skip ?_)
         cases hi141
         exact aI rfl rfl
       ·rintro _ _ ⟨rfl, rfl⟩
        refine thenS_n (Wsr ((guardO_e hv133 (fun hg145 hv133 => (Wp 6 [0, 1, 2, 3] [0, 1, 5, 6, 7, 8] (True ∧ ((0 ≤ i96 ∧ i96 < (lI x95)) ∧ T2)) ⟨[(0, sF 0 x1), (1, I i2), (5, sF 1 x94), (6, sF 2 x95), (7, I i96), (8, pA 3 0)], [nR x1, nO x94, .row .int (x95.set i96.toNat (lI x94)) true, .cells [cI i141, cS ((x1.getD i96.toNat dnod).name), cI ((x1.getD i96.toNat dnod).value)]]⟩ ⟨trivial, hg145, trivial, trivial⟩ (WO_eq (st' := ⟨[(0, sF 0 x1), (1, I i2), (5, sF 1 x94), (6, .one (.e (.sl 2 0 ((x95.set i96.toNat (lI x94)).length)))), (7, I i96), (8, pA 3 0)], [nR x1, nO x94, .row .int (x95.set i96.toNat (lI x94)) true, .cells [cI i141, cS ((x1.getD i96.toNat dnod).name), cI ((x1.getD i96.toNat dnod).value)]]⟩) (by simp only [sF, List.length_set]) (Wnt ((W_region (guardO_e hv133 (fun hg146 hv133 => (Wp 5 [0, 5, 2] [0, 1, 5, 6, 7] (True ∧ ((0 = 0 ∧ x94.length = x94.length ∧ x94.length + (([(⟨i141, (x1.getD i96.toNat dnod).name, (x1.getD i96.toNat dnod).value⟩ : Nod)].drop 0).take ([(⟨i141, (x1.getD i96.toNat dnod).name, (x1.getD i96.toNat dnod).value⟩ : Nod)].length)).length ≤ 1099511627776) ∧ True)) ⟨[(0, sF 0 x1), (1, I i2), (5, .one (.e (.sl 1 0 ((x94 ++ (([(⟨i141, (x1.getD i96.toNat dnod).name, (x1.getD i96.toNat dnod).value⟩ : Nod)].drop 0).take ([(⟨i141, (x1.getD i96.toNat dnod).name, (x1.getD i96.toNat dnod).value⟩ : Nod)].length))).length)))), (6, .one (.e (.sl 2 0 ((x95.set i96.toNat (lI x94)).length)))), (7, I i96)], [nR x1, .row .nod (x94 ++ (([(⟨i141, (x1.getD i96.toNat dnod).name, (x1.getD i96.toNat dnod).value⟩ : Nod)].drop 0).take ([(⟨i141, (x1.getD i96.toNat dnod).name, (x1.getD i96.toNat dnod).value⟩ : Nod)].length))) true, .row .int (x95.set i96.toNat (lI x94)) true]⟩ ⟨trivial, hg146, trivial⟩ (WO_nil rfl (blockS_n ?_))))))))))))))
        cases hv133
        exact aI rfl rfl
     ·obtain ⟨x131, x132⟩ := v133
      rintro _ _ ⟨rfl, rfl⟩
      refine thenS_n (W_region (Wp 3 [0, 1, 2] [0, 1, 5, 6, 7] T2 ⟨[(0, sF 0 x1), (1, I i2), (5, sF 1 x131), (6, sF 2 x132), (7, I (w64 (i96 + 1)))], [nR x1, nO x131, iO x132]⟩ t2 (Wnt (?_))))
      exact ih _ _ _ h
    ·refine Ww [0, 1] [5] ⟨[(5, sF 1 x94)], [nR x1, nO x94]⟩ (W_exit (thenS_e (thenS_e ?_)))
     cases h
     exact aI rfl rfl

def spec_without (n : Nat) (x1 : List Nod) (i2 : Int) : Option ((List Nod)) :=
 guardO ((((x1.length : Nat) : Int) : Int) = ((x1.length : Nat) : Int) ∧ 0 ≤ ((x1.length : Nat) : Int) ∧ ((x1.length : Nat) : Int) ≤ 1099511627776) <|
 bindO (spec_without_L1 x1 i2 n ([] : List Nod) (List.replicate (((x1.length : Nat) : Int).toNat) (0 : Int)) 0) fun x116 =>
 some x116

theorem spec_without_ok (n : Nat) (x1 : List Nod) (i2 : Int) (x68 : List Nod) (h : spec_without n x1 i2 = some x68) : FOk EE 170 [sF 0 x1, I i2] [nR x1] (sF 1 x68) [nR x1, nO x68] := by
  unfold spec_without at h
  refine FOk_of_W 45 1 Tryz.func170 rfl rfl (Nat.le_of_ble_eq_true rfl) rfl (fun w X θ => ?_)
  refine Wsr ((Ws 1 [0] [0, 1] ⟨[(0, sF 0 x1), (1, I i2)], [nR x1]⟩ (Wnt ((W_seq (W_region ?_))))))
  refine Ws 2 [0, 1] [0, 1, 5] ⟨[(0, sF 0 x1), (1, I i2), (5, .one (.e (.sl 1 0 (([] : List Nod).length))))], [nR x1, nO ([] : List Nod)]⟩ (Wnt ((Wsr ((guardO_e h (fun hg69 h => (Wp 4 [0, 1, 2] [0, 1, 5, 6] (True ∧ ((((lI x1) : Int) = (lI x1) ∧ 0 ≤ (lI x1) ∧ (lI x1) ≤ 1099511627776) ∧ True)) ⟨[(0, sF 0 x1), (1, I i2), (5, .one (.e (.sl 1 0 (([] : List Nod).length)))), (6, .one (.e (.sl 2 0 ((List.replicate ((lI x1).toNat) (0 : Int)).length))))], [nR x1, nO ([] : List Nod), .row .int (List.replicate ((lI x1).toNat) (0 : Int)) true]⟩ ⟨trivial, hg69, trivial⟩ ?_)))))))
  refine Wnt ((W_seq (Wsr ((Ws 1 [0, 1, 2] [0, 1, 5, 6, 7] ⟨[(0, sF 0 x1), (1, I i2), (5, .one (.e (.sl 1 0 (([] : List Nod).length)))), (6, .one (.e (.sl 2 0 ((List.replicate ((lI x1).toNat) (0 : Int)).length)))), (7, I 0)], [nR x1, nO ([] : List Nod), .row .int (List.replicate ((lI x1).toNat) (0 : Int)) true]⟩ (WO_nil rfl ?_))))))
  refine thenS_n (W_block (W_loop (bindO_e h (fun x116 hx116 h => (WL_cut (spec_without_L1_ok w X θ x1 i2 x116 n ([] : List Nod) (List.replicate ((lI x1).toNat) (0 : Int)) 0 hx116) ?_)))))
  rintro _ _ ⟨rfl, rfl⟩
  refine blockS_y (thenS_n (Wsr ((Ws 2 [0, 1] [4] ⟨[(4, sF 1 x116)], [nR x1, nO x116]⟩ (Wnt (?_))))))
  refine W_ret ?_
  cases h
  exact ⟨[0, 1], True, by kernel_rfl, trivial⟩

/- spec.DropNode -/
def spec_DropNode (n : Nat) (x1 : List Nod) (i2 : Int) : Option ((List Nod) × Bool) :=
 bindO (spec_validTree n x1) fun b14 =>
 iteO ((!b14) || (!(spec_inRange i2 1 (w64 (((x1.length : Nat) : Int) - 1)))))
 (some (([] : List Nod), false))
 (bindO (spec_without n x1 i2) fun x21 =>
 some (x21, true))

theorem spec_DropNode_ok (n : Nat) (x1 : List Nod) (i2 : Int) (x12 : List Nod) (b13 : Bool) (h : spec_DropNode n x1 i2 = some (x12, b13)) : FOk EE 151 [sF 0 x1, I i2] [nR x1] (.tup [.e (.sl 1 0 x12.length), .e (cB b13)]) [nR x1, nO x12] := by
  unfold spec_DropNode at h
  refine FOk_of_W 20 1 Tryz.func151 rfl rfl (Nat.le_of_ble_eq_true rfl) rfl (fun w X θ => ?_)
  refine Wsr ((Ws 2 [0] [0, 1] ⟨[(0, sF 0 x1), (1, I i2)], [nR x1]⟩ (Wnt ((W_seq (W_seq ?_))))))
  refine W_region (Ws 1 [0] [0, 1, 6] ⟨[(0, sF 0 x1), (1, I i2), (6, sF 0 x1)], [nR x1]⟩ (bindO_e h (fun b14 hc15 h => (Wc [.ro 0] rfl rfl rfl Tryz.func45 rfl (spec_validTree_ok n x1 b14 hc15) (aI (aI rfl rfl) (trivial)) rfl (Ws 2 [0] [0, 1, 9] ⟨[(0, sF 0 x1), (1, I i2), (9, B (!b14))], [nR x1]⟩ (WO_thru ⟨[(0, sF 0 x1), (1, I i2), (16, B ((!b14) || (!(spec_inRange i2 1 (w64 ((lI x1) - 1))))))], [nR x1]⟩ ?_ ?_))))))
  ·refine WO_if 9 rfl (fun hb18 => ?_) (fun hb18 => ?_)
   ·refine Ws 7 [0] [0, 1, 16] ⟨[(0, sF 0 x1), (1, I i2), (16, B true)], [nR x1]⟩ ?_
    exact WO_nil rfl ⟨rfl, by first | rfl | (rw [hb18]; first | done | rfl)⟩
   ·refine Wp 4 [0] [0, 1, 9, 10, 13] T3 ⟨[(0, sF 0 x1), (1, I i2), (9, B false), (10, I i2), (13, I (w64 ((lI x1) - 1)))], [nR x1]⟩ t3 (Wc [] rfl rfl rfl Tryz.func71 rfl (spec_inRange_ok i2 1 (w64 ((lI x1) - 1))) (trivial) rfl (Ws 2 [0] [0, 1, 16] ⟨[(0, sF 0 x1), (1, I i2), (16, B (!(spec_inRange i2 1 (w64 ((lI x1) - 1)))))], [nR x1]⟩ ?_))
    exact WO_nil rfl ⟨rfl, by first | rfl | (rw [hb18]; first | done | rfl)⟩
  ·refine thenS_n (iteO_e h (fun hb20 h => W_true rfl hb20 ?_) (fun hb20 h => W_false rfl hb20 ?_))
   ·refine Wsr ((Ws 2 [0] [4, 5] ⟨[(4, .one (.e (.nsl))), (5, B false)], [nR x1]⟩ (WO_nilrow 4 .nod rfl (Wb [0, 1] [4, 5] ⟨[(4, .one (.e (.sl 1 0 (([] : List Nod).length)))), (5, B false)], [nR x1, nO ([] : List Nod)]⟩ (Wnt ((W_ret (thenS_r ?_))))))))
    cases h
    exact ⟨[0, 1], True, by kernel_rfl, trivial⟩
   ·refine Ww [0] [0, 1] ⟨[(0, sF 0 x1), (1, I i2)], [nR x1]⟩ (W_skip (thenS_n (Wsr ((Ws 2 [0] [17, 18] ⟨[(17, sF 0 x1), (18, I i2)], [nR x1]⟩ (bindO_e h (fun x21 hc22 h => (Wc [.ro 0] rfl rfl rfl Tryz.func170 rfl (spec_without_ok n x1 i2 x21 hc22) (aI (aI rfl rfl) (trivial)) rfl (Ws 2 [0, 1] [4, 5] ⟨[(4, sF 1 x21), (5, B true)], [nR x1, nO x21]⟩ (Wnt ((W_ret ?_))))))))))))
    cases h
    exact ⟨[0, 1], True, by kernel_rfl, trivial⟩

/- spec.SetValue -/
def spec_SetValue (n : Nat) (x1 : List Nod) (i2 : Int) (i3 : Int) : Option ((List Nod) × Bool) :=
 bindO (spec_validTree n x1) fun b17 =>
 iteO ((!b17) || ((!(spec_inRange i2 0 (w64 (((x1.length : Nat) : Int) - 1)))) || (!(spec_inRange i3 (-1000) 1000))))
 (some (([] : List Nod), false))
 (guardO (0 = 0 ∧ ([] : List Nod).length = ([] : List Nod).length ∧ ([] : List Nod).length + ((x1.drop 0).take x1.length).length ≤ 1099511627776) <|
 guardO (0 ≤ i2 ∧ i2 < (((([] : List Nod) ++ ((x1.drop 0).take x1.length)).length : Nat) : Int)) <|
 some (((([] : List Nod) ++ ((x1.drop 0).take x1.length)).set i2.toNat (⟨((([] : List Nod) ++ ((x1.drop 0).take x1.length)).getD i2.toNat dnod).parent, ((([] : List Nod) ++ ((x1.drop 0).take x1.length)).getD i2.toNat dnod).name, i3⟩ : Nod)), true))

theorem spec_SetValue_ok (n : Nat) (x1 : List Nod) (i2 : Int) (i3 : Int) (x15 : List Nod) (b16 : Bool) (h : spec_SetValue n x1 i2 i3 = some (x15, b16)) : FOk EE 152 [sF 0 x1, I i2, I i3] [nR x1] (.tup [.e (.sl 1 0 x15.length), .e (cB b16)]) [nR x1, nO x15] := by
  unfold spec_SetValue at h
  refine FOk_of_W 34 1 Tryz.func152 rfl rfl (Nat.le_of_ble_eq_true rfl) rfl (fun w X θ => ?_)
  refine Wsr ((Ws 2 [0] [0, 1, 2] ⟨[(0, sF 0 x1), (1, I i2), (2, I i3)], [nR x1]⟩ (Wnt ((W_seq (W_seq ?_))))))
  refine W_region (Ws 1 [0] [0, 1, 2, 9] ⟨[(0, sF 0 x1), (1, I i2), (2, I i3), (9, sF 0 x1)], [nR x1]⟩ (bindO_e h (fun b17 hc18 h => (Wc [.ro 0] rfl rfl rfl Tryz.func45 rfl (spec_validTree_ok n x1 b17 hc18) (aI (aI rfl rfl) (trivial)) rfl (Ws 2 [0] [0, 1, 2, 12] ⟨[(0, sF 0 x1), (1, I i2), (2, I i3), (12, B (!b17))], [nR x1]⟩ (WO_thru ⟨[(0, sF 0 x1), (1, I i2), (2, I i3), (24, B ((!b17) || ((!(spec_inRange i2 0 (w64 ((lI x1) - 1)))) || (!(spec_inRange i3 (-1000) 1000)))))], [nR x1]⟩ ?_ ?_))))))
  ·refine WO_if 12 rfl (fun hb22 => ?_) (fun hb22 => ?_)
   ·refine Ws 12 [0] [0, 1, 2, 24] ⟨[(0, sF 0 x1), (1, I i2), (2, I i3), (24, B true)], [nR x1]⟩ ?_
    exact WO_nil rfl ⟨rfl, by first | rfl | (rw [hb22]; first | done | rfl)⟩
   ·refine Wp 4 [0] [0, 1, 2, 12, 13, 16] T3 ⟨[(0, sF 0 x1), (1, I i2), (2, I i3), (12, B false), (13, I i2), (16, I (w64 ((lI x1) - 1)))], [nR x1]⟩ t3 (Wc [] rfl rfl rfl Tryz.func71 rfl (spec_inRange_ok i2 0 (w64 ((lI x1) - 1))) (trivial) rfl (Ws 3 [0] [0, 1, 2, 20] ⟨[(0, sF 0 x1), (1, I i2), (2, I i3), (20, B (!(spec_inRange i2 0 (w64 ((lI x1) - 1)))))], [nR x1]⟩ (WO_if 20 rfl (fun hb23 => ?_) (fun hb23 => ?_))))
    ·refine Ws 4 [0] [0, 1, 2, 24] ⟨[(0, sF 0 x1), (1, I i2), (2, I i3), (24, B true)], [nR x1]⟩ ?_
     exact WO_nil rfl ⟨rfl, by first | rfl | (simp only [hb22, hb23]; first | done | rfl)⟩
    ·refine Ws 1 [0] [0, 1, 2, 20, 21] ⟨[(0, sF 0 x1), (1, I i2), (2, I i3), (20, B false), (21, I i3)], [nR x1]⟩ (Wc [] rfl rfl rfl Tryz.func71 rfl (spec_inRange_ok i3 (-1000) 1000) (trivial) rfl (Ws 2 [0] [0, 1, 2, 24] ⟨[(0, sF 0 x1), (1, I i2), (2, I i3), (24, B (!(spec_inRange i3 (-1000) 1000)))], [nR x1]⟩ ?_))
     exact WO_nil rfl ⟨rfl, by first | rfl | (simp only [hb22, hb23]; first | done | rfl)⟩
  ·refine thenS_n (iteO_e h (fun hb25 h => W_true rfl hb25 ?_) (fun hb25 h => W_false rfl hb25 ?_))
   ·refine Wsr ((Ws 2 [0] [6, 7] ⟨[(6, .one (.e (.nsl))), (7, B false)], [nR x1]⟩ (WO_nilrow 6 .nod rfl (Wb [0, 1] [6, 7] ⟨[(6, .one (.e (.sl 1 0 (([] : List Nod).length)))), (7, B false)], [nR x1, nO ([] : List Nod)]⟩ (Wnt ((W_ret (thenS_r ?_))))))))
    cases h
    exact ⟨[0, 1], True, by kernel_rfl, trivial⟩
   ·refine Ww [0] [0, 1, 2] ⟨[(0, sF 0 x1), (1, I i2), (2, I i3)], [nR x1]⟩ (W_skip (thenS_n (Wsr ((guardO_e h (fun hg26 h => (Wp 4 [0, 2] [1, 2, 8] ((0 = 0 ∧ ([] : List Nod).length = ([] : List Nod).length ∧ ([] : List Nod).length + ((x1.drop 0).take x1.length).length ≤ 1099511627776) ∧ True) ⟨[(1, I i2), (2, I i3), (8, .one (.e (.sl 1 0 ((([] : List Nod) ++ ((x1.drop 0).take x1.length)).length))))], [nR x1, .row .nod (([] : List Nod) ++ ((x1.drop 0).take x1.length)) true]⟩ ⟨hg26, trivial⟩ (Wnt ((Wsr ((guardO_e h (fun hg27 h => (Wp 6 [0, 1] [8] ((0 ≤ i2 ∧ i2 < (((([] : List Nod) ++ ((x1.drop 0).take x1.length)).length : Nat) : Int)) ∧ T2) ⟨[(8, .one (.e (.sl 1 0 ((([] : List Nod) ++ ((x1.drop 0).take x1.length)).length))))], [nR x1, .row .nod ((([] : List Nod) ++ ((x1.drop 0).take x1.length)).set i2.toNat (⟨((([] : List Nod) ++ ((x1.drop 0).take x1.length)).getD i2.toNat dnod).parent, ((([] : List Nod) ++ ((x1.drop 0).take x1.length)).getD i2.toNat dnod).name, i3⟩ : Nod)) true]⟩ ⟨hg27, trivial, trivial⟩ (WO_eq (st' := ⟨[(8, .one (.e (.sl 1 0 (((([] : List Nod) ++ ((x1.drop 0).take x1.length)).set i2.toNat (⟨((([] : List Nod) ++ ((x1.drop 0).take x1.length)).getD i2.toNat dnod).parent, ((([] : List Nod) ++ ((x1.drop 0).take x1.length)).getD i2.toNat dnod).name, i3⟩ : Nod)).length))))], [nR x1, .row .nod ((([] : List Nod) ++ ((x1.drop 0).take x1.length)).set i2.toNat (⟨((([] : List Nod) ++ ((x1.drop 0).take x1.length)).getD i2.toNat dnod).parent, ((([] : List Nod) ++ ((x1.drop 0).take x1.length)).getD i2.toNat dnod).name, i3⟩ : Nod)) true]⟩) (by simp only [sF, List.length_set]) (Wnt ((Wsr ((Ws 3 [0, 1] [6, 7] ⟨[(6, .one (.e (.sl 1 0 (((([] : List Nod) ++ ((x1.drop 0).take x1.length)).set i2.toNat (⟨((([] : List Nod) ++ ((x1.drop 0).take x1.length)).getD i2.toNat dnod).parent, ((([] : List Nod) ++ ((x1.drop 0).take x1.length)).getD i2.toNat dnod).name, i3⟩ : Nod)).length)))), (7, B true)], [nR x1, .row .nod ((([] : List Nod) ++ ((x1.drop 0).take x1.length)).set i2.toNat (⟨((([] : List Nod) ++ ((x1.drop 0).take x1.length)).getD i2.toNat dnod).parent, ((([] : List Nod) ++ ((x1.drop 0).take x1.length)).getD i2.toNat dnod).name, i3⟩ : Nod)) true]⟩ (Wnt ((W_ret ?_)))))))))))))))))))))))
    cases h
    exact ⟨[0, 1], True, by kernel_rfl, trivial⟩

/- spec.AddNode -/
def spec_AddNode (n : Nat) (x1 : List Nod) (i2 : Int) (s3 : Str) (i4 : Int) : Option ((List Nod) × Int × Bool) :=
 bindO (spec_validTree n x1) fun b21 =>
 iteO ((!b21) || (decide (((x1.length : Nat) : Int) = 12)))
 (some (([] : List Nod), (-1), false))
 (guardO (0 = 0 ∧ ([] : List Nod).length = ([] : List Nod).length ∧ ([] : List Nod).length + ((x1.drop 0).take x1.length).length ≤ 1099511627776) <|
 guardO (0 = 0 ∧ (([] : List Nod) ++ ((x1.drop 0).take x1.length)).length = (([] : List Nod) ++ ((x1.drop 0).take x1.length)).length ∧ (([] : List Nod) ++ ((x1.drop 0).take x1.length)).length + (([(⟨i2, s3, i4⟩ : Nod)].drop 0).take ([(⟨i2, s3, i4⟩ : Nod)].length)).length ≤ 1099511627776) <|
 bindO (spec_validTree n ((([] : List Nod) ++ ((x1.drop 0).take x1.length)) ++ (([(⟨i2, s3, i4⟩ : Nod)].drop 0).take ([(⟨i2, s3, i4⟩ : Nod)].length)))) fun b30 =>
 iteO (!b30)
 (some (([] : List Nod), (-1), false))
 (some (((([] : List Nod) ++ ((x1.drop 0).take x1.length)) ++ (([(⟨i2, s3, i4⟩ : Nod)].drop 0).take ([(⟨i2, s3, i4⟩ : Nod)].length))), ((x1.length : Nat) : Int), true)))

theorem spec_AddNode_ok (n : Nat) (x1 : List Nod) (i2 : Int) (s3 : Str) (i4 : Int) (x18 : List Nod) (i19 : Int) (b20 : Bool) (h : spec_AddNode n x1 i2 s3 i4 = some (x18, i19, b20)) : FOk EE 97 [sF 0 x1, I i2, S s3, I i4] [nR x1] (.tup [.e (.sl 1 0 x18.length), .e (cI i19), .e (cB b20)]) [nR x1, nO x18] := by
  unfold spec_AddNode at h
  refine FOk_of_W 35 1 Tryz.func97 rfl rfl (Nat.le_of_ble_eq_true rfl) rfl (fun w X θ => ?_)
  refine Wsr ((Ws 3 [0] [0, 1, 2, 3] ⟨[(0, sF 0 x1), (1, I i2), (2, S s3), (3, I i4)], [nR x1]⟩ (Wnt ((W_seq (W_seq ?_))))))
  refine W_region (Ws 1 [0] [0, 1, 2, 3, 12] ⟨[(0, sF 0 x1), (1, I i2), (2, S s3), (3, I i4), (12, sF 0 x1)], [nR x1]⟩ (bindO_e h (fun b21 hc22 h => (Wc [.ro 0] rfl rfl rfl Tryz.func45 rfl (spec_validTree_ok n x1 b21 hc22) (aI (aI rfl rfl) (trivial)) rfl (Ws 2 [0] [0, 1, 2, 3, 15] ⟨[(0, sF 0 x1), (1, I i2), (2, S s3), (3, I i4), (15, B (!b21))], [nR x1]⟩ (WO_thru ⟨[(0, sF 0 x1), (1, I i2), (2, S s3), (3, I i4), (19, B ((!b21) || (decide ((lI x1) = 12))))], [nR x1]⟩ ?_ ?_))))))
  ·refine WO_if 15 rfl (fun hb25 => ?_) (fun hb25 => ?_)
   ·refine Ws 4 [0] [0, 1, 2, 3, 19] ⟨[(0, sF 0 x1), (1, I i2), (2, S s3), (3, I i4), (19, B true)], [nR x1]⟩ ?_
    exact WO_nil rfl ⟨rfl, by first | rfl | (rw [hb25]; first | done | rfl)⟩
   ·refine Wp 4 [0] [0, 1, 2, 3, 19] T3 ⟨[(0, sF 0 x1), (1, I i2), (2, S s3), (3, I i4), (19, B (decide ((lI x1) = 12)))], [nR x1]⟩ t3 ?_
    exact WO_nil rfl ⟨rfl, by first | rfl | (rw [hb25]; first | done | rfl)⟩
  ·refine thenS_n (iteO_e h (fun hb27 h => W_true rfl hb27 ?_) (fun hb27 h => W_false rfl hb27 ?_))
   ·refine Wsr ((Ws 3 [0] [8, 9, 10] ⟨[(8, .one (.e (.nsl))), (9, I (-1)), (10, B false)], [nR x1]⟩ (WO_nilrow 8 .nod rfl (Wb [0, 1] [8, 9, 10] ⟨[(8, .one (.e (.sl 1 0 (([] : List Nod).length)))), (9, I (-1)), (10, B false)], [nR x1, nO ([] : List Nod)]⟩ (Wnt ((W_ret (thenS_r ?_))))))))
    cases h
    exact ⟨[0, 1], True, by kernel_rfl, trivial⟩
   ·refine Ww [0] [0, 1, 2, 3] ⟨[(0, sF 0 x1), (1, I i2), (2, S s3), (3, I i4)], [nR x1]⟩ (W_skip (thenS_n (Wsr ((guardO_e h (fun hg28 h => (guardO_e h (fun hg29 h => (Wp 10 [0, 4] [0, 11] ((0 = 0 ∧ ([] : List Nod).length = ([] : List Nod).length ∧ ([] : List Nod).length + ((x1.drop 0).take x1.length).length ≤ 1099511627776) ∧ ((0 = 0 ∧ (([] : List Nod) ++ ((x1.drop 0).take x1.length)).length = (([] : List Nod) ++ ((x1.drop 0).take x1.length)).length ∧ (([] : List Nod) ++ ((x1.drop 0).take x1.length)).length + (([(⟨i2, s3, i4⟩ : Nod)].drop 0).take ([(⟨i2, s3, i4⟩ : Nod)].length)).length ≤ 1099511627776) ∧ True)) ⟨[(0, sF 0 x1), (11, .one (.e (.sl 1 0 (((([] : List Nod) ++ ((x1.drop 0).take x1.length)) ++ (([(⟨i2, s3, i4⟩ : Nod)].drop 0).take ([(⟨i2, s3, i4⟩ : Nod)].length))).length))))], [nR x1, .row .nod ((([] : List Nod) ++ ((x1.drop 0).take x1.length)) ++ (([(⟨i2, s3, i4⟩ : Nod)].drop 0).take ([(⟨i2, s3, i4⟩ : Nod)].length))) true]⟩ ⟨hg28, hg29, trivial⟩ (Wnt ((W_seq (Wsr ((Ws 1 [0, 1] [0, 11, 29] ⟨[(0, sF 0 x1), (11, .one (.e (.sl 1 0 (((([] : List Nod) ++ ((x1.drop 0).take x1.length)) ++ (([(⟨i2, s3, i4⟩ : Nod)].drop 0).take ([(⟨i2, s3, i4⟩ : Nod)].length))).length)))), (29, .one (.e (.sl 1 0 (((([] : List Nod) ++ ((x1.drop 0).take x1.length)) ++ (([(⟨i2, s3, i4⟩ : Nod)].drop 0).take ([(⟨i2, s3, i4⟩ : Nod)].length))).length))))], [nR x1, .row .nod ((([] : List Nod) ++ ((x1.drop 0).take x1.length)) ++ (([(⟨i2, s3, i4⟩ : Nod)].drop 0).take ([(⟨i2, s3, i4⟩ : Nod)].length))) true]⟩ (bindO_e h (fun b30 hc31 h => (Wc [.ro 1] rfl rfl rfl Tryz.func45 rfl (spec_validTree_ok n ((([] : List Nod) ++ ((x1.drop 0).take x1.length)) ++ (([(⟨i2, s3, i4⟩ : Nod)].drop 0).take ([(⟨i2, s3, i4⟩ : Nod)].length))) b30 hc31) (aI (aI rfl rfl) (trivial)) rfl (Ws 1 [0, 1] [0, 11, 31] ⟨[(0, sF 0 x1), (11, .one (.e (.sl 1 0 (((([] : List Nod) ++ ((x1.drop 0).take x1.length)) ++ (([(⟨i2, s3, i4⟩ : Nod)].drop 0).take ([(⟨i2, s3, i4⟩ : Nod)].length))).length)))), (31, B (!b30))], [nR x1, .row .nod ((([] : List Nod) ++ ((x1.drop 0).take x1.length)) ++ (([(⟨i2, s3, i4⟩ : Nod)].drop 0).take ([(⟨i2, s3, i4⟩ : Nod)].length))) true]⟩ (Wnt ((iteO_e h (fun hb33 h => W_true rfl hb33 ?_) (fun hb33 h => W_false rfl hb33 ?_)))))))))))))))))))))))
    ·refine Wsr ((Ws 3 [0] [8, 9, 10] ⟨[(8, .one (.e (.nsl))), (9, I (-1)), (10, B false)], [nR x1]⟩ (WO_nilrow 8 .nod rfl (Wb [0, 1] [8, 9, 10] ⟨[(8, .one (.e (.sl 1 0 (([] : List Nod).length)))), (9, I (-1)), (10, B false)], [nR x1, nO ([] : List Nod)]⟩ (Wnt ((W_ret (thenS_r ?_))))))))
     cases h
     exact ⟨[0, 1], True, by kernel_rfl, trivial⟩
    ·refine Ww [0, 1] [0, 11] ⟨[(0, sF 0 x1), (11, .one (.e (.sl 1 0 (((([] : List Nod) ++ ((x1.drop 0).take x1.length)) ++ (([(⟨i2, s3, i4⟩ : Nod)].drop 0).take ([(⟨i2, s3, i4⟩ : Nod)].length))).length))))], [nR x1, .row .nod ((([] : List Nod) ++ ((x1.drop 0).take x1.length)) ++ (([(⟨i2, s3, i4⟩ : Nod)].drop 0).take ([(⟨i2, s3, i4⟩ : Nod)].length))) true]⟩ (W_skip (thenS_n (Wsr ((Wp 6 [0, 1] [8, 9, 10] T2 ⟨[(8, .one (.e (.sl 1 0 (((([] : List Nod) ++ ((x1.drop 0).take x1.length)) ++ (([(⟨i2, s3, i4⟩ : Nod)].drop 0).take ([(⟨i2, s3, i4⟩ : Nod)].length))).length)))), (9, I (lI x1)), (10, B true)], [nR x1, .row .nod ((([] : List Nod) ++ ((x1.drop 0).take x1.length)) ++ (([(⟨i2, s3, i4⟩ : Nod)].drop 0).take ([(⟨i2, s3, i4⟩ : Nod)].length))) true]⟩ t2 (Wnt ((W_ret ?_))))))))
     cases h
     exact ⟨[0, 1], True, by kernel_rfl, trivial⟩

/- spec.apply -/
def spec_apply (n : Nat) (x1 : List Nod) (x2 : Edt) : Option ((List Nod) × Bool) :=
 bindO (spec_resolve n x1 x2.path) fun i53 =>
 iteO ((decide (x2.kind = 1)) && (decide (x2.value = 0)))
 (bindO (spec_DropNode n x1 i53) fun (x64, b65) =>
 some (x64, b65))
 (iteO (!decide (x2.kind = 0))
 (some (([] : List Nod), false))
 (iteO (decide (0 ≤ i53))
 (bindO (spec_SetValue n x1 i53 x2.value) fun (x76, b77) =>
 some (x76, b77))
 (bindO (spec_cut n x2.path) fun (s80, s81) =>
 bindO (spec_resolve n x1 s80) fun i83 =>
 bindO (spec_AddNode n x1 i83 s81 x2.value) fun (x85, i86, b87) =>
 bindO (iteO (!b87)
 (some true)
 (bindO (spec_resolve n x85 x2.path) fun i96 =>
 some (decide (i96 < 0)))) fun b93 =>
 iteO b93
 (some (([] : List Nod), false))
 (some (x85, true)))))

theorem spec_apply_ok (n : Nat) (x1 : List Nod) (x2 : Edt) (x51 : List Nod) (b52 : Bool) (h : spec_apply n x1 x2 = some (x51, b52)) : FOk EE 126 [sF 0 x1, AGG [cI x2.kind, cS x2.path, cI x2.value]] [nR x1] (.tup [.e (.sl 1 0 x51.length), .e (cB b52)]) [nR x1, nO x51] := by
  unfold spec_apply at h
  refine FOk_of_W 69 1 Tryz.func126 rfl rfl (Nat.le_of_ble_eq_true rfl) rfl (fun w X θ => ?_)
  refine Wsr ((Wp 3 [0, 1] [0, 3] T2 ⟨[(0, sF 0 x1), (3, pA 1 0)], [nR x1, .cells [cI x2.kind, cS x2.path, cI x2.value]]⟩ t2 (Wnt ((W_seq (W_region ?_))))))
  refine Wp 3 [0, 1] [0, 3, 12, 14] T2 ⟨[(0, sF 0 x1), (3, pA 1 0), (12, sF 0 x1), (14, S x2.path)], [nR x1, .cells [cI x2.kind, cS x2.path, cI x2.value]]⟩ t2 (bindO_e h (fun i53 hc54 h => (Wc [.ro 0] rfl rfl rfl Tryz.func44 rfl (spec_resolve_ok n x1 x2.path i53 hc54) (aI (aI rfl rfl) (trivial)) rfl (Ws 1 [0, 1] [0, 3, 6] ⟨[(0, sF 0 x1), (3, pA 1 0), (6, I i53)], [nR x1, .cells [cI x2.kind, cS x2.path, cI x2.value]]⟩ (Wnt ((W_seq ?_)))))))
  refine Wsr ((Wp 4 [0, 1] [0, 3, 6, 19] T3 ⟨[(0, sF 0 x1), (3, pA 1 0), (6, I i53), (19, B (decide (x2.kind = 1)))], [nR x1, .cells [cI x2.kind, cS x2.path, cI x2.value]]⟩ t3 (WO_thru ⟨[(0, sF 0 x1), (3, pA 1 0), (6, I i53), (23, B ((decide (x2.kind = 1)) && (decide (x2.value = 0))))], [nR x1, .cells [cI x2.kind, cS x2.path, cI x2.value]]⟩ ?_ ?_)))
  ·refine WO_if 19 rfl (fun hb57 => ?_) (fun hb57 => ?_)
   ·refine Wp 4 [0, 1] [0, 3, 6, 23] T3 ⟨[(0, sF 0 x1), (3, pA 1 0), (6, I i53), (23, B (decide (x2.value = 0)))], [nR x1, .cells [cI x2.kind, cS x2.path, cI x2.value]]⟩ t3 ?_
    exact WO_nil rfl ⟨rfl, by first | rfl | (rw [hb57]; first | done | rfl)⟩
   ·refine Ws 4 [0, 1] [0, 3, 6, 23] ⟨[(0, sF 0 x1), (3, pA 1 0), (6, I i53), (23, B false)], [nR x1, .cells [cI x2.kind, cS x2.path, cI x2.value]]⟩ ?_
    exact WO_nil rfl ⟨rfl, by first | rfl | (rw [hb57]; first | done | rfl)⟩
  ·refine thenS_n (iteO_e h (fun hb63 h => W_true rfl hb63 ?_) (fun hb63 h => W_false rfl hb63 ?_))
   ·refine Wsr ((Ws 2 [0] [24, 25] ⟨[(24, sF 0 x1), (25, I i53)], [nR x1]⟩ (bindO_e h (fun v67 hc66 h => ?_))))
    obtain ⟨x64, b65⟩ := v67
    refine Wc [.ro 0] rfl rfl rfl Tryz.func151 rfl (spec_DropNode_ok n x1 i53 x64 b65 hc66) (aI (aI rfl rfl) (trivial)) rfl (Ws 4 [0, 1] [4, 5] ⟨[(4, sF 1 x64), (5, B b65)], [nR x1, nO x64]⟩ (Wnt ((W_ret (thenS_r ?_)))))
    cases h
    exact ⟨[0, 1], True, by kernel_rfl, trivial⟩
   ·refine Ww [0, 1] [0, 3, 6] ⟨[(0, sF 0 x1), (3, pA 1 0), (6, I i53)], [nR x1, .cells [cI x2.kind, cS x2.path, cI x2.value]]⟩ (W_skip (thenS_n (W_seq (Wsr ((Wp 3 [0, 1] [0, 3, 6, 31] T3 ⟨[(0, sF 0 x1), (3, pA 1 0), (6, I i53), (31, B (!decide (x2.kind = 0)))], [nR x1, .cells [cI x2.kind, cS x2.path, cI x2.value]]⟩ t3 (Wnt ((iteO_e h (fun hb69 h => W_true rfl hb69 ?_) (fun hb69 h => W_false rfl hb69 ?_))))))))))
    ·refine Wsr ((Ws 2 [0] [4, 5] ⟨[(4, .one (.e (.nsl))), (5, B false)], [nR x1]⟩ (WO_nilrow 4 .nod rfl (Wb [0, 1] [4, 5] ⟨[(4, .one (.e (.sl 1 0 (([] : List Nod).length)))), (5, B false)], [nR x1, nO ([] : List Nod)]⟩ (Wnt ((W_ret (thenS_r ?_))))))))
     cases h
     exact ⟨[0, 1], True, by kernel_rfl, trivial⟩
    ·refine Ww [0, 1] [0, 3, 6] ⟨[(0, sF 0 x1), (3, pA 1 0), (6, I i53)], [nR x1, .cells [cI x2.kind, cS x2.path, cI x2.value]]⟩ (W_skip (thenS_n (W_seq (Wsr ((Wp 2 [0, 1] [0, 3, 6, 33] T2 ⟨[(0, sF 0 x1), (3, pA 1 0), (6, I i53), (33, B (decide (0 ≤ i53)))], [nR x1, .cells [cI x2.kind, cS x2.path, cI x2.value]]⟩ t2 (Wnt ((iteO_e h (fun hb75 h => W_true rfl hb75 ?_) (fun hb75 h => W_false rfl hb75 ?_))))))))))
     ·refine Wsr ((Wp 4 [0] [34, 35, 37] T2 ⟨[(34, sF 0 x1), (35, I i53), (37, I x2.value)], [nR x1]⟩ t2 (bindO_e h (fun v79 hc78 h => ?_))))
      obtain ⟨x76, b77⟩ := v79
      refine Wc [.ro 0] rfl rfl rfl Tryz.func152 rfl (spec_SetValue_ok n x1 i53 x2.value x76 b77 hc78) (aI (aI rfl rfl) (trivial)) rfl (Ws 4 [0, 1] [4, 5] ⟨[(4, sF 1 x76), (5, B b77)], [nR x1, nO x76]⟩ (Wnt ((W_ret (thenS_r ?_)))))
      cases h
      exact ⟨[0, 1], True, by kernel_rfl, trivial⟩
     ·refine Ww [0, 1] [0, 3] ⟨[(0, sF 0 x1), (3, pA 1 0)], [nR x1, .cells [cI x2.kind, cS x2.path, cI x2.value]]⟩ (W_skip (thenS_n (Wsr ((Wp 2 [0, 1] [0, 3, 43] T2 ⟨[(0, sF 0 x1), (3, pA 1 0), (43, S x2.path)], [nR x1, .cells [cI x2.kind, cS x2.path, cI x2.value]]⟩ t2 (bindO_e h (fun v100 hc82 h => ?_)))))))
      obtain ⟨s80, s81⟩ := v100
      refine Wc [] rfl rfl rfl Tryz.func43 rfl (spec_cut_ok n x2.path s80 s81 hc82) (trivial) rfl (Ws 5 [0, 1] [0, 3, 7, 8] ⟨[(0, sF 0 x1), (3, pA 1 0), (7, S s80), (8, S s81)], [nR x1, .cells [cI x2.kind, cS x2.path, cI x2.value]]⟩ (Wnt ((W_seq (bindO_e h (fun i83 hc84 h => (bindO_e h (fun v89 hc88 h => ?_))))))))
      obtain ⟨x85, i86, b87⟩ := v89
      refine W_cut (Q' := fun (e : Exit) (s : St) => e = .normal ∧ s = ⟨[(3, pA 1 0), (9, sF 2 x85), (11, B b87)], [nR x1, .cells [cI x2.kind, cS x2.path, cI x2.value], nO x85]⟩) ?_ ?_
      ·refine W_draw [] false (by kernel_rfl) (by kernel_rfl) (WD_takeQ [0, 1, 2, 4, 5, 6] [3, 48, 49, 50, 52, 54] [3, 48, 49, 50, 52, 54] (φ := (True ∧ True ∧ True)) (ls' := (tf true [3, 1, 3, 8])) (st' := ⟨[(3, pA 1 0), (48, sF 0 x1), (49, sF 0 x1), (50, S s80), (52, S s81), (54, I x2.value)], [nR x1, .cells [cI x2.kind, cS x2.path, cI x2.value]]⟩) (n2 := 9) (by kernel_rfl) t3 rfl (WD_all [3] (n := 8) (by kernel_rfl) rfl (WM_call [.ro 0] Tryz.f44 rfl rfl (by kernel_rfl) Tryz.func44 rfl (by kernel_rfl) (spec_resolve_ok n x1 s80 i83 hc84) (aI (aI rfl rfl) (trivial)) rfl (aI rfl (aI (aI rfl rfl) (trivial))) (WD_all [7] (n := 7) (by kernel_rfl) rfl (WM_call [.ro 0] Tryz.f97 rfl rfl (by kernel_rfl) Tryz.func97 rfl (by kernel_rfl) (spec_AddNode_ok n x1 i83 s81 x2.value x85 i86 b87 hc88) (aI (aI rfl rfl) (trivial)) rfl (aI rfl (aI (aI rfl rfl) (trivial))) (WD_all [8] (n := 6) (by kernel_rfl) rfl (WM_op (φ := True) (v := .tup [.e (.sl 2 0 x85.length), .e (cI i86), .e (cB b87)]) (H' := [nR x1, .cells [cI x2.kind, cS x2.path, cI x2.value], nO x85]) rfl rfl (by kernel_rfl) trivial rfl (aI rfl (aI (aI rfl rfl) (trivial))) (WD_all [9, 10, 11] (n := 5) (by kernel_rfl) rfl (aI ?_ (aI ?_ (?_)))))))))))
       ·refine WM_op (φ := True) (v := sF 2 x85) (H' := [nR x1, .cells [cI x2.kind, cS x2.path, cI x2.value], nO x85]) rfl rfl (by kernel_rfl) trivial rfl (aI rfl (aI (aI rfl rfl) (trivial))) (WD_all [10, 11, 12] (n := 4) (by kernel_rfl) rfl (aI ?_ (aI ?_ (?_))))
        ·refine WM_op (φ := True) (v := I i86) (H' := [nR x1, .cells [cI x2.kind, cS x2.path, cI x2.value], nO x85]) rfl rfl (by kernel_rfl) trivial rfl (aI rfl (aI (aI rfl rfl) (trivial))) (WD_all [11, 12] (n := 3) (by kernel_rfl) rfl (aI ?_ (?_)))
         ·refine WM_op (φ := True) (v := B b87) (H' := [nR x1, .cells [cI x2.kind, cS x2.path, cI x2.value], nO x85]) rfl rfl (by kernel_rfl) trivial rfl (aI rfl (aI (aI rfl rfl) (trivial))) (WD_all [12] (n := 2) (by kernel_rfl) rfl (WM_op (φ := True) (v := sF 2 x85) (H' := [nR x1, .cells [cI x2.kind, cS x2.path, cI x2.value], nO x85]) rfl rfl (by kernel_rfl) trivial rfl (aI rfl (aI (aI rfl rfl) (trivial))) (WD_takeK [13, 14] [3, 11] [3, 9, 11] (φ := True) (ls' := (tf true [15])) (Ts' := [(3, pA 1 0), (11, B b87)]) (st' := ⟨[(3, pA 1 0), (9, sF 2 x85), (11, B b87)], [nR x1, .cells [cI x2.kind, cS x2.path, cI x2.value], nO x85]⟩) (n2 := 0) (by kernel_rfl) trivial rfl ?_)))
          exact WD_done [0, 1, 2] [3, 9, 11] (st' := ⟨[(3, pA 1 0), (9, sF 2 x85), (11, B b87)], [nR x1, .cells [cI x2.kind, cS x2.path, cI x2.value], nO x85]⟩) (by kernel_rfl) (by kernel_rfl) (aI rfl rfl)
         ·refine WM_op (φ := True) (v := sF 2 x85) (H' := [nR x1, .cells [cI x2.kind, cS x2.path, cI x2.value], nO x85]) rfl rfl (by kernel_rfl) trivial rfl (aI rfl (aI (aI rfl rfl) (trivial))) (WD_takeK [13] [3] [3, 9, 47] (φ := True) (ls' := (tf true [11, 1, 2, 1])) (Ts' := [(3, pA 1 0)]) (st' := ⟨[(3, pA 1 0), (9, sF 2 x85), (47, .tup [.e (.sl 2 0 x85.length), .e (cI i86), .e (cB b87)])], [nR x1, .cells [cI x2.kind, cS x2.path, cI x2.value], nO x85]⟩) (n2 := 2) (by kernel_rfl) trivial rfl (WD_all [11] (n := 1) (by kernel_rfl) rfl (WM_op (φ := True) (v := B b87) (H' := [nR x1, .cells [cI x2.kind, cS x2.path, cI x2.value], nO x85]) rfl rfl (by kernel_rfl) trivial rfl (aI rfl (aI (aI rfl rfl) (trivial))) (WD_takeK [14] [3, 11] [3, 9, 11] (φ := True) (ls' := (tf true [15])) (Ts' := [(3, pA 1 0), (11, B b87)]) (st' := ⟨[(3, pA 1 0), (9, sF 2 x85), (11, B b87)], [nR x1, .cells [cI x2.kind, cS x2.path, cI x2.value], nO x85]⟩) (n2 := 0) (by kernel_rfl) trivial rfl ?_))))
          exact WD_done [0, 1, 2] [3, 9, 11] (st' := ⟨[(3, pA 1 0), (9, sF 2 x85), (11, B b87)], [nR x1, .cells [cI x2.kind, cS x2.path, cI x2.value], nO x85]⟩) (by kernel_rfl) (by kernel_rfl) (aI rfl rfl)
        ·refine WM_op (φ := True) (v := B b87) (H' := [nR x1, .cells [cI x2.kind, cS x2.path, cI x2.value], nO x85]) rfl rfl (by kernel_rfl) trivial rfl (aI rfl (aI (aI rfl rfl) (trivial))) (WD_all [10, 12] (n := 3) (by kernel_rfl) rfl (aI ?_ (?_)))
         ·refine WM_op (φ := True) (v := I i86) (H' := [nR x1, .cells [cI x2.kind, cS x2.path, cI x2.value], nO x85]) rfl rfl (by kernel_rfl) trivial rfl (aI rfl (aI (aI rfl rfl) (trivial))) (WD_all [12] (n := 2) (by kernel_rfl) rfl (WM_op (φ := True) (v := sF 2 x85) (H' := [nR x1, .cells [cI x2.kind, cS x2.path, cI x2.value], nO x85]) rfl rfl (by kernel_rfl) trivial rfl (aI rfl (aI (aI rfl rfl) (trivial))) (WD_takeK [13, 14] [3, 11] [3, 9, 11] (φ := True) (ls' := (tf true [15])) (Ts' := [(3, pA 1 0), (11, B b87)]) (st' := ⟨[(3, pA 1 0), (9, sF 2 x85), (11, B b87)], [nR x1, .cells [cI x2.kind, cS x2.path, cI x2.value], nO x85]⟩) (n2 := 0) (by kernel_rfl) trivial rfl ?_)))
          exact WD_done [0, 1, 2] [3, 9, 11] (st' := ⟨[(3, pA 1 0), (9, sF 2 x85), (11, B b87)], [nR x1, .cells [cI x2.kind, cS x2.path, cI x2.value], nO x85]⟩) (by kernel_rfl) (by kernel_rfl) (aI rfl rfl)
         ·refine WM_op (φ := True) (v := sF 2 x85) (H' := [nR x1, .cells [cI x2.kind, cS x2.path, cI x2.value], nO x85]) rfl rfl (by kernel_rfl) trivial rfl (aI rfl (aI (aI rfl rfl) (trivial))) (WD_all [10] (n := 2) (by kernel_rfl) rfl (WM_op (φ := True) (v := I i86) (H' := [nR x1, .cells [cI x2.kind, cS x2.path, cI x2.value], nO x85]) rfl rfl (by kernel_rfl) trivial rfl (aI rfl (aI (aI rfl rfl) (trivial))) (WD_takeK [13, 14] [3, 11] [3, 9, 11] (φ := True) (ls' := (tf true [15])) (Ts' := [(3, pA 1 0), (11, B b87)]) (st' := ⟨[(3, pA 1 0), (9, sF 2 x85), (11, B b87)], [nR x1, .cells [cI x2.kind, cS x2.path, cI x2.value], nO x85]⟩) (n2 := 0) (by kernel_rfl) trivial rfl ?_)))
          exact WD_done [0, 1, 2] [3, 9, 11] (st' := ⟨[(3, pA 1 0), (9, sF 2 x85), (11, B b87)], [nR x1, .cells [cI x2.kind, cS x2.path, cI x2.value], nO x85]⟩) (by kernel_rfl) (by kernel_rfl) (aI rfl rfl)
        ·refine WM_op (φ := True) (v := sF 2 x85) (H' := [nR x1, .cells [cI x2.kind, cS x2.path, cI x2.value], nO x85]) rfl rfl (by kernel_rfl) trivial rfl (aI rfl (aI (aI rfl rfl) (trivial))) (WD_all [10, 11] (n := 3) (by kernel_rfl) rfl (aI ?_ (?_)))
         ·refine WM_op (φ := True) (v := I i86) (H' := [nR x1, .cells [cI x2.kind, cS x2.path, cI x2.value], nO x85]) rfl rfl (by kernel_rfl) trivial rfl (aI rfl (aI (aI rfl rfl) (trivial))) (WD_takeK [13] [3] [3, 9, 47] (φ := True) (ls' := (tf true [11, 1, 2, 1])) (Ts' := [(3, pA 1 0)]) (st' := ⟨[(3, pA 1 0), (9, sF 2 x85), (47, .tup [.e (.sl 2 0 x85.length), .e (cI i86), .e (cB b87)])], [nR x1, .cells [cI x2.kind, cS x2.path, cI x2.value], nO x85]⟩) (n2 := 2) (by kernel_rfl) trivial rfl (WD_all [11] (n := 1) (by kernel_rfl) rfl (WM_op (φ := True) (v := B b87) (H' := [nR x1, .cells [cI x2.kind, cS x2.path, cI x2.value], nO x85]) rfl rfl (by kernel_rfl) trivial rfl (aI rfl (aI (aI rfl rfl) (trivial))) (WD_takeK [14] [3, 11] [3, 9, 11] (φ := True) (ls' := (tf true [15])) (Ts' := [(3, pA 1 0), (11, B b87)]) (st' := ⟨[(3, pA 1 0), (9, sF 2 x85), (11, B b87)], [nR x1, .cells [cI x2.kind, cS x2.path, cI x2.value], nO x85]⟩) (n2 := 0) (by kernel_rfl) trivial rfl ?_))))
          exact WD_done [0, 1, 2] [3, 9, 11] (st' := ⟨[(3, pA 1 0), (9, sF 2 x85), (11, B b87)], [nR x1, .cells [cI x2.kind, cS x2.path, cI x2.value], nO x85]⟩) (by kernel_rfl) (by kernel_rfl) (aI rfl rfl)
         ·refine WM_op (φ := True) (v := B b87) (H' := [nR x1, .cells [cI x2.kind, cS x2.path, cI x2.value], nO x85]) rfl rfl (by kernel_rfl) trivial rfl (aI rfl (aI (aI rfl rfl) (trivial))) (WD_all [10] (n := 2) (by kernel_rfl) rfl (WM_op (φ := True) (v := I i86) (H' := [nR x1, .cells [cI x2.kind, cS x2.path, cI x2.value], nO x85]) rfl rfl (by kernel_rfl) trivial rfl (aI rfl (aI (aI rfl rfl) (trivial))) (WD_takeK [13, 14] [3, 11] [3, 9, 11] (φ := True) (ls' := (tf true [15])) (Ts' := [(3, pA 1 0), (11, B b87)]) (st' := ⟨[(3, pA 1 0), (9, sF 2 x85), (11, B b87)], [nR x1, .cells [cI x2.kind, cS x2.path, cI x2.value], nO x85]⟩) (n2 := 0) (by kernel_rfl) trivial rfl ?_)))
          exact WD_done [0, 1, 2] [3, 9, 11] (st' := ⟨[(3, pA 1 0), (9, sF 2 x85), (11, B b87)], [nR x1, .cells [cI x2.kind, cS x2.path, cI x2.value], nO x85]⟩) (by kernel_rfl) (by kernel_rfl) (aI rfl rfl)
       ·refine WM_op (φ := True) (v := I i86) (H' := [nR x1, .cells [cI x2.kind, cS x2.path, cI x2.value], nO x85]) rfl rfl (by kernel_rfl) trivial rfl (aI rfl (aI (aI rfl rfl) (trivial))) (WD_all [9, 11] (n := 4) (by kernel_rfl) rfl (aI ?_ (?_)))
        ·refine WM_op (φ := True) (v := sF 2 x85) (H' := [nR x1, .cells [cI x2.kind, cS x2.path, cI x2.value], nO x85]) rfl rfl (by kernel_rfl) trivial rfl (aI rfl (aI (aI rfl rfl) (trivial))) (WD_all [11, 12] (n := 3) (by kernel_rfl) rfl (aI ?_ (?_)))
         ·refine WM_op (φ := True) (v := B b87) (H' := [nR x1, .cells [cI x2.kind, cS x2.path, cI x2.value], nO x85]) rfl rfl (by kernel_rfl) trivial rfl (aI rfl (aI (aI rfl rfl) (trivial))) (WD_all [12] (n := 2) (by kernel_rfl) rfl (WM_op (φ := True) (v := sF 2 x85) (H' := [nR x1, .cells [cI x2.kind, cS x2.path, cI x2.value], nO x85]) rfl rfl (by kernel_rfl) trivial rfl (aI rfl (aI (aI rfl rfl) (trivial))) (WD_takeK [13, 14] [3, 11] [3, 9, 11] (φ := True) (ls' := (tf true [15])) (Ts' := [(3, pA 1 0), (11, B b87)]) (st' := ⟨[(3, pA 1 0), (9, sF 2 x85), (11, B b87)], [nR x1, .cells [cI x2.kind, cS x2.path, cI x2.value], nO x85]⟩) (n2 := 0) (by kernel_rfl) trivial rfl ?_)))
          exact WD_done [0, 1, 2] [3, 9, 11] (st' := ⟨[(3, pA 1 0), (9, sF 2 x85), (11, B b87)], [nR x1, .cells [cI x2.kind, cS x2.path, cI x2.value], nO x85]⟩) (by kernel_rfl) (by kernel_rfl) (aI rfl rfl)
         ·refine WM_op (φ := True) (v := sF 2 x85) (H' := [nR x1, .cells [cI x2.kind, cS x2.path, cI x2.value], nO x85]) rfl rfl (by kernel_rfl) trivial rfl (aI rfl (aI (aI rfl rfl) (trivial))) (WD_takeK [13] [3] [3, 9, 47] (φ := True) (ls' := (tf true [11, 1, 2, 1])) (Ts' := [(3, pA 1 0)]) (st' := ⟨[(3, pA 1 0), (9, sF 2 x85), (47, .tup [.e (.sl 2 0 x85.length), .e (cI i86), .e (cB b87)])], [nR x1, .cells [cI x2.kind, cS x2.path, cI x2.value], nO x85]⟩) (n2 := 2) (by kernel_rfl) trivial rfl (WD_all [11] (n := 1) (by kernel_rfl) rfl (WM_op (φ := True) (v := B b87) (H' := [nR x1, .cells [cI x2.kind, cS x2.path, cI x2.value], nO x85]) rfl rfl (by kernel_rfl) trivial rfl (aI rfl (aI (aI rfl rfl) (trivial))) (WD_takeK [14] [3, 11] [3, 9, 11] (φ := True) (ls' := (tf true [15])) (Ts' := [(3, pA 1 0), (11, B b87)]) (st' := ⟨[(3, pA 1 0), (9, sF 2 x85), (11, B b87)], [nR x1, .cells [cI x2.kind, cS x2.path, cI x2.value], nO x85]⟩) (n2 := 0) (by kernel_rfl) trivial rfl ?_))))
          exact WD_done [0, 1, 2] [3, 9, 11] (st' := ⟨[(3, pA 1 0), (9, sF 2 x85), (11, B b87)], [nR x1, .cells [cI x2.kind, cS x2.path, cI x2.value], nO x85]⟩) (by kernel_rfl) (by kernel_rfl) (aI rfl rfl)
        ·refine WM_op (φ := True) (v := B b87) (H' := [nR x1, .cells [cI x2.kind, cS x2.path, cI x2.value], nO x85]) rfl rfl (by kernel_rfl) trivial rfl (aI rfl (aI (aI rfl rfl) (trivial))) (WD_all [9] (n := 3) (by kernel_rfl) rfl (WM_op (φ := True) (v := sF 2 x85) (H' := [nR x1, .cells [cI x2.kind, cS x2.path, cI x2.value], nO x85]) rfl rfl (by kernel_rfl) trivial rfl (aI rfl (aI (aI rfl rfl) (trivial))) (WD_all [12] (n := 2) (by kernel_rfl) rfl (WM_op (φ := True) (v := sF 2 x85) (H' := [nR x1, .cells [cI x2.kind, cS x2.path, cI x2.value], nO x85]) rfl rfl (by kernel_rfl) trivial rfl (aI rfl (aI (aI rfl rfl) (trivial))) (WD_takeK [13, 14] [3, 11] [3, 9, 11] (φ := True) (ls' := (tf true [15])) (Ts' := [(3, pA 1 0), (11, B b87)]) (st' := ⟨[(3, pA 1 0), (9, sF 2 x85), (11, B b87)], [nR x1, .cells [cI x2.kind, cS x2.path, cI x2.value], nO x85]⟩) (n2 := 0) (by kernel_rfl) trivial rfl ?_)))))
         exact WD_done [0, 1, 2] [3, 9, 11] (st' := ⟨[(3, pA 1 0), (9, sF 2 x85), (11, B b87)], [nR x1, .cells [cI x2.kind, cS x2.path, cI x2.value], nO x85]⟩) (by kernel_rfl) (by kernel_rfl) (aI rfl rfl)
       ·refine WM_op (φ := True) (v := B b87) (H' := [nR x1, .cells [cI x2.kind, cS x2.path, cI x2.value], nO x85]) rfl rfl (by kernel_rfl) trivial rfl (aI rfl (aI (aI rfl rfl) (trivial))) (WD_all [9, 10] (n := 4) (by kernel_rfl) rfl (aI ?_ (?_)))
        ·refine WM_op (φ := True) (v := sF 2 x85) (H' := [nR x1, .cells [cI x2.kind, cS x2.path, cI x2.value], nO x85]) rfl rfl (by kernel_rfl) trivial rfl (aI rfl (aI (aI rfl rfl) (trivial))) (WD_all [10, 12] (n := 3) (by kernel_rfl) rfl (aI ?_ (?_)))
         ·refine WM_op (φ := True) (v := I i86) (H' := [nR x1, .cells [cI x2.kind, cS x2.path, cI x2.value], nO x85]) rfl rfl (by kernel_rfl) trivial rfl (aI rfl (aI (aI rfl rfl) (trivial))) (WD_all [12] (n := 2) (by kernel_rfl) rfl (WM_op (φ := True) (v := sF 2 x85) (H' := [nR x1, .cells [cI x2.kind, cS x2.path, cI x2.value], nO x85]) rfl rfl (by kernel_rfl) trivial rfl (aI rfl (aI (aI rfl rfl) (trivial))) (WD_takeK [13, 14] [3, 11] [3, 9, 11] (φ := True) (ls' := (tf true [15])) (Ts' := [(3, pA 1 0), (11, B b87)]) (st' := ⟨[(3, pA 1 0), (9, sF 2 x85), (11, B b87)], [nR x1, .cells [cI x2.kind, cS x2.path, cI x2.value], nO x85]⟩) (n2 := 0) (by kernel_rfl) trivial rfl ?_)))
          exact WD_done [0, 1, 2] [3, 9, 11] (st' := ⟨[(3, pA 1 0), (9, sF 2 x85), (11, B b87)], [nR x1, .cells [cI x2.kind, cS x2.path, cI x2.value], nO x85]⟩) (by kernel_rfl) (by kernel_rfl) (aI rfl rfl)
         ·refine WM_op (φ := True) (v := sF 2 x85) (H' := [nR x1, .cells [cI x2.kind, cS x2.path, cI x2.value], nO x85]) rfl rfl (by kernel_rfl) trivial rfl (aI rfl (aI (aI rfl rfl) (trivial))) (WD_all [10] (n := 2) (by kernel_rfl) rfl (WM_op (φ := True) (v := I i86) (H' := [nR x1, .cells [cI x2.kind, cS x2.path, cI x2.value], nO x85]) rfl rfl (by kernel_rfl) trivial rfl (aI rfl (aI (aI rfl rfl) (trivial))) (WD_takeK [13, 14] [3, 11] [3, 9, 11] (φ := True) (ls' := (tf true [15])) (Ts' := [(3, pA 1 0), (11, B b87)]) (st' := ⟨[(3, pA 1 0), (9, sF 2 x85), (11, B b87)], [nR x1, .cells [cI x2.kind, cS x2.path, cI x2.value], nO x85]⟩) (n2 := 0) (by kernel_rfl) trivial rfl ?_)))
          exact WD_done [0, 1, 2] [3, 9, 11] (st' := ⟨[(3, pA 1 0), (9, sF 2 x85), (11, B b87)], [nR x1, .cells [cI x2.kind, cS x2.path, cI x2.value], nO x85]⟩) (by kernel_rfl) (by kernel_rfl) (aI rfl rfl)
        ·refine WM_op (φ := True) (v := I i86) (H' := [nR x1, .cells [cI x2.kind, cS x2.path, cI x2.value], nO x85]) rfl rfl (by kernel_rfl) trivial rfl (aI rfl (aI (aI rfl rfl) (trivial))) (WD_all [9] (n := 3) (by kernel_rfl) rfl (WM_op (φ := True) (v := sF 2 x85) (H' := [nR x1, .cells [cI x2.kind, cS x2.path, cI x2.value], nO x85]) rfl rfl (by kernel_rfl) trivial rfl (aI rfl (aI (aI rfl rfl) (trivial))) (WD_all [12] (n := 2) (by kernel_rfl) rfl (WM_op (φ := True) (v := sF 2 x85) (H' := [nR x1, .cells [cI x2.kind, cS x2.path, cI x2.value], nO x85]) rfl rfl (by kernel_rfl) trivial rfl (aI rfl (aI (aI rfl rfl) (trivial))) (WD_takeK [13, 14] [3, 11] [3, 9, 11] (φ := True) (ls' := (tf true [15])) (Ts' := [(3, pA 1 0), (11, B b87)]) (st' := ⟨[(3, pA 1 0), (9, sF 2 x85), (11, B b87)], [nR x1, .cells [cI x2.kind, cS x2.path, cI x2.value], nO x85]⟩) (n2 := 0) (by kernel_rfl) trivial rfl ?_)))))
         exact WD_done [0, 1, 2] [3, 9, 11] (st' := ⟨[(3, pA 1 0), (9, sF 2 x85), (11, B b87)], [nR x1, .cells [cI x2.kind, cS x2.path, cI x2.value], nO x85]⟩) (by kernel_rfl) (by kernel_rfl) (aI rfl rfl)
      ·rintro _ _ ⟨rfl, rfl⟩
       refine thenS_n (W_seq (Wsr ((Ws 3 [0, 1, 2] [3, 9, 61] ⟨[(3, pA 1 0), (9, sF 2 x85), (61, B (!b87))], [nR x1, .cells [cI x2.kind, cS x2.path, cI x2.value], nO x85]⟩ (bindO_e h (fun b93 hv94 h => (WO_thru ⟨[(9, sF 1 x85), (67, B b93)], [nR x1, nO x85]⟩ ?_ ?_)))))))
       ·refine iteO_e hv94 (fun hb95 hv94 => WO_known 61 true rfl hb95 ?_) (fun hb95 hv94 => WO_known 61 false rfl hb95 ?_)
        ·refine Ws 6 [0, 2] [9, 67] ⟨[(9, sF 1 x85), (67, B true)], [nR x1, nO x85]⟩ ?_
         cases hv94
         exact WO_nil rfl ⟨rfl, rfl⟩
        ·refine Wp 3 [0, 2] [9, 61, 62, 64] T2 ⟨[(9, sF 1 x85), (61, B false), (62, sF 1 x85), (64, S x2.path)], [nR x1, nO x85]⟩ t2 (bindO_e hv94 (fun i96 hc97 hv94 => (Wc [.ro 1] rfl rfl rfl Tryz.func44 rfl (spec_resolve_ok n x85 x2.path i96 hc97) (aI (aI rfl rfl) (trivial)) rfl (Wp 2 [0, 1] [9, 67] T2 ⟨[(9, sF 1 x85), (67, B (decide (i96 < 0)))], [nR x1, nO x85]⟩ t2 ?_))))
         cases hv94
         exact WO_nil rfl ⟨rfl, rfl⟩
       ·refine thenS_n (iteO_e h (fun hb99 h => W_true rfl hb99 ?_) (fun hb99 h => W_false rfl hb99 ?_))
        ·refine Wsr ((Ws 2 [0] [4, 5] ⟨[(4, .one (.e (.nsl))), (5, B false)], [nR x1]⟩ (WO_nilrow 4 .nod rfl (Wb [0, 1] [4, 5] ⟨[(4, .one (.e (.sl 1 0 (([] : List Nod).length)))), (5, B false)], [nR x1, nO ([] : List Nod)]⟩ (Wnt ((W_ret (thenS_r ?_))))))))
         cases h
         exact ⟨[0, 1], True, by kernel_rfl, trivial⟩
        ·refine Ww [0, 1] [9] ⟨[(9, sF 1 x85)], [nR x1, nO x85]⟩ (W_skip (thenS_n (Wsr ((Ws 3 [0, 1] [4, 5] ⟨[(4, sF 1 x85), (5, B true)], [nR x1, nO x85]⟩ (Wnt ((W_ret ?_))))))))
         cases h
         exact ⟨[0, 1], True, by kernel_rfl, trivial⟩

/- spec.ApplyEdits -/
def spec_ApplyEdits_L1 (x2 : List Edt) (x1 : List Nod) : Nat → (List Nod) → Int → Option ((Unit) ⊕ ((List Nod)))
| 0, _, _ => none
| n + 1, x132, i133 =>
 iteO (decide (i133 < ((x2.length : Nat) : Int)))
 (guardO (0 ≤ i133 ∧ i133 < ((x2.length : Nat) : Int)) <|
 bindO (spec_apply n x132 (x2.getD i133.toNat dedt)) fun (x164, b165) =>
 iteO (!b165)
 (some (.inl ()))
 (spec_ApplyEdits_L1 x2 x1 n x164 (w64 (i133 + 1))))
 (some (.inr x132))

theorem spec_ApplyEdits_L1_ok (w : World) (X : Nat → Prop) (θ : List Loc) (x2 : List Edt) (x1 : List Nod) (v : (Unit) ⊕ ((List Nod))) : ∀ (n : Nat) (x132 : List Nod) (i133 : Int), spec_ApplyEdits_L1 x2 x1 n x132 i133 = some v → WL EE ⟨w, X, θ, 38, 2⟩ (subC [1, 1, 0, 1, 4, 4] (bodyC Tryz.f91)) (fun (e : Exit) (s : St) => (match v with | (.inl _) => e = .ret ∧ s = ⟨[(4, .one (.e (.sl 2 0 (([] : List Nod).length)))), (5, B false)], [nR x1, eR x2, nO ([] : List Nod)]⟩ | (.inr x152) => e = .exit 0 ∧ s = ⟨[(0, sF 2 x152)], [nR x1, eR x2, nO x152]⟩ : Prop)) ⟨[(0, sF 2 x132), (1, sF 1 x2), (6, I i133)], [nR x1, eR x2, nO x132]⟩ := by
  intro n
  induction n with
  | zero => intro _ _ h; exact none_e h
  | succ n ih =>
    intro x132 i133 h
    rw [spec_ApplyEdits_L1] at h
    refine WL_round ?_
    refine W_seq (Wsr ((Wp 4 [0, 1, 2] [0, 1, 6, 20] T3 ⟨[(0, sF 2 x132), (1, sF 1 x2), (6, I i133), (20, B (decide (i133 < (lI x2))))], [nR x1, eR x2, nO x132]⟩ t3 (Wnt ((iteO_e h (fun hb155 h => W_true rfl hb155 ?_) (fun hb155 h => W_false rfl hb155 ?_)))))))
    ·refine Ww [0, 1, 2] [0, 1, 6] ⟨[(0, sF 2 x132), (1, sF 1 x2), (6, I i133)], [nR x1, eR x2, nO x132]⟩ (W_skip (thenS_n (W_seq (W_block (Wsr ((guardO_e h (fun hg163 h => (Wp 5 [0, 1, 2] [1, 6, 24, 28] ((0 ≤ i133 ∧ i133 < (lI x2)) ∧ T2) ⟨[(1, sF 1 x2), (6, I i133), (24, sF 2 x132), (28, AGG [cI ((x2.getD i133.toNat dedt).kind), cS ((x2.getD i133.toNat dedt).path), cI ((x2.getD i133.toNat dedt).value)])], [nR x1, eR x2, nO x132]⟩ ⟨hg163, trivial, trivial⟩ (bindO_e h (fun v169 hc166 h => ?_)))))))))))
     obtain ⟨x164, b165⟩ := v169
     refine Wc [.ro 2] rfl rfl rfl Tryz.func126 rfl (spec_apply_ok n x132 (x2.getD i133.toNat dedt) x164 b165 hc166) (aI (aI rfl rfl) (trivial)) rfl (Ws 5 [0, 1, 3] [1, 6, 7, 8] ⟨[(1, sF 1 x2), (6, I i133), (7, sF 2 x164), (8, B b165)], [nR x1, eR x2, nO x164]⟩ (Wnt ((W_seq (Wsr ((Ws 2 [0, 1, 2] [1, 6, 7, 33] ⟨[(1, sF 1 x2), (6, I i133), (7, sF 2 x164), (33, B (!b165))], [nR x1, eR x2, nO x164]⟩ (Wnt ((iteO_e h (fun hb168 h => W_true rfl hb168 ?_) (fun hb168 h => W_false rfl hb168 ?_)))))))))))
     ·refine Wsr ((Ws 2 [0, 1] [4, 5] ⟨[(4, .one (.e (.nsl))), (5, B false)], [nR x1, eR x2]⟩ (WO_nilrow 4 .nod rfl (Wb [0, 1, 2] [4, 5] ⟨[(4, .one (.e (.sl 2 0 (([] : List Nod).length)))), (5, B false)], [nR x1, eR x2, nO ([] : List Nod)]⟩ (Wnt ((W_ret (thenS_r (blockS_r (thenS_r (thenS_r ?_)))))))))))
      cases h
      exact aI rfl rfl
     ·refine Ww [0, 1, 2] [1, 6, 7] ⟨[(1, sF 1 x2), (6, I i133), (7, sF 2 x164)], [nR x1, eR x2, nO x164]⟩ (W_skip (thenS_n (W_region (Ws 2 [0, 1, 2] [0, 1, 6] ⟨[(0, sF 2 x164), (1, sF 1 x2), (6, I i133)], [nR x1, eR x2, nO x164]⟩ (WO_nil rfl (blockS_n (thenS_n (W_region (Wp 3 [0, 1, 2] [0, 1, 6] T2 ⟨[(0, sF 2 x164), (1, sF 1 x2), (6, I (w64 (i133 + 1)))], [nR x1, eR x2, nO x164]⟩ t2 (Wnt (?_)))))))))))
      exact ih _ _ h
    ·refine Ww [0, 1, 2] [0] ⟨[(0, sF 2 x132)], [nR x1, eR x2, nO x132]⟩ (W_exit (thenS_e (thenS_e ?_)))
     cases h
     exact aI rfl rfl

def spec_ApplyEdits (n : Nat) (x1 : List Nod) (x2 : List Edt) : Option ((List Nod) × Bool) :=
 bindO (spec_validTree n x1) fun b70 =>
 iteO ((!b70) || (decide (24 < ((x2.length : Nat) : Int))))
 (some (([] : List Nod), false))
 (bindO (iteO (decide (0 < ((x2.length : Nat) : Int)))
 (guardO (0 ≤ (0 : Int) ∧ (0 : Int) < ((x2.length : Nat) : Int)) <|
 bindO (spec_apply n x1 (x2.getD 0 dedt)) fun (x127, b128) =>
 iteO (!b128)
 (some (.inl ()))
 (bindO (spec_ApplyEdits_L1 x2 x1 n x127 (w64 (0 + 1))) fun v170 =>
 match v170 with
 | (.inl _) => (some (.inl ()))
 | (.inr x152) => (some (.inr (.inl x152)))
))
 (some (.inr (.inr ()))) : Option ((Unit) ⊕ (((List Nod)) ⊕ (Unit)))) fun v116 =>
 match v116 with
 | (.inl _) => (some (([] : List Nod), false))
 | (.inr (.inl x115)) => (guardO (0 = 0 ∧ ([] : List Nod).length = ([] : List Nod).length ∧ ([] : List Nod).length + ((x115.drop 0).take x115.length).length ≤ 1099511627776) <|
 some ((([] : List Nod) ++ ((x115.drop 0).take x115.length)), true))
 | (.inr (.inr _)) => (guardO (0 = 0 ∧ ([] : List Nod).length = ([] : List Nod).length ∧ ([] : List Nod).length + ((x1.drop 0).take x1.length).length ≤ 1099511627776) <|
 some ((([] : List Nod) ++ ((x1.drop 0).take x1.length)), true))
)

theorem spec_ApplyEdits_ok (n : Nat) (x1 : List Nod) (x2 : List Edt) (x68 : List Nod) (b69 : Bool) (h : spec_ApplyEdits n x1 x2 = some (x68, b69)) : FOk EE 91 [sF 0 x1, sF 1 x2] [nR x1, eR x2] (.tup [.e (.sl 2 0 x68.length), .e (cB b69)]) [nR x1, eR x2, nO x68] := by
  unfold spec_ApplyEdits at h
  refine FOk_of_W 38 2 Tryz.func91 rfl rfl (Nat.le_of_ble_eq_true rfl) rfl (fun w X θ => ?_)
  refine Wsr ((Ws 2 [0, 1] [0, 1] ⟨[(0, sF 0 x1), (1, sF 1 x2)], [nR x1, eR x2]⟩ (Wnt ((W_seq (W_seq ?_))))))
  refine W_region (Ws 1 [0, 1] [0, 1, 9] ⟨[(0, sF 0 x1), (1, sF 1 x2), (9, sF 0 x1)], [nR x1, eR x2]⟩ (bindO_e h (fun b70 hc71 h => (Wc [.ro 0] rfl rfl rfl Tryz.func45 rfl (spec_validTree_ok n x1 b70 hc71) (aI (aI rfl rfl) (trivial)) rfl (Ws 2 [0, 1] [0, 1, 12] ⟨[(0, sF 0 x1), (1, sF 1 x2), (12, B (!b70))], [nR x1, eR x2]⟩ (WO_thru ⟨[(0, sF 0 x1), (1, sF 1 x2), (16, B ((!b70) || (decide (24 < (lI x2)))))], [nR x1, eR x2]⟩ ?_ ?_))))))
  ·refine WO_if 12 rfl (fun hb74 => ?_) (fun hb74 => ?_)
   ·refine Ws 4 [0, 1] [0, 1, 16] ⟨[(0, sF 0 x1), (1, sF 1 x2), (16, B true)], [nR x1, eR x2]⟩ ?_
    exact WO_nil rfl ⟨rfl, by first | rfl | (rw [hb74]; first | done | rfl)⟩
   ·refine Wp 4 [0, 1] [0, 1, 16] T3 ⟨[(0, sF 0 x1), (1, sF 1 x2), (16, B (decide (24 < (lI x2))))], [nR x1, eR x2]⟩ t3 ?_
    exact WO_nil rfl ⟨rfl, by first | rfl | (rw [hb74]; first | done | rfl)⟩
  ·refine thenS_n (iteO_e h (fun hb76 h => W_true rfl hb76 ?_) (fun hb76 h => W_false rfl hb76 ?_))
   ·refine Wsr ((Ws 2 [0, 1] [4, 5] ⟨[(4, .one (.e (.nsl))), (5, B false)], [nR x1, eR x2]⟩ (WO_nilrow 4 .nod rfl (Wb [0, 1, 2] [4, 5] ⟨[(4, .one (.e (.sl 2 0 (([] : List Nod).length)))), (5, B false)], [nR x1, eR x2, nO ([] : List Nod)]⟩ (Wnt ((W_ret (thenS_r ?_))))))))
    cases h
    exact ⟨[0, 1, 2], True, by kernel_rfl, trivial⟩
   ·refine Ww [0, 1] [0, 1] ⟨[(0, sF 0 x1), (1, sF 1 x2)], [nR x1, eR x2]⟩ (W_skip (thenS_n (W_seq (Wsr ((Ws 1 [0, 1] [0, 1, 6] ⟨[(0, sF 0 x1), (1, sF 1 x2), (6, I 0)], [nR x1, eR x2]⟩ (Wnt ((bindO_e h (fun v116 hv116 h => (W_cut (Q' := fun (e : Exit) (s : St) => (match v116 with | (.inl _) => e = .ret ∧ s = ⟨[(4, .one (.e (.sl 2 0 (([] : List Nod).length)))), (5, B false)], [nR x1, eR x2, nO ([] : List Nod)]⟩ | (.inr (.inl x115)) => e = .normal ∧ s = ⟨[(0, sF 2 x115)], [nR x1, eR x2, nO x115]⟩ | (.inr (.inr _)) => e = .normal ∧ s = ⟨[(0, sF 0 x1)], [nR x1, eR x2]⟩ : Prop)) ?_ ?_)))))))))))
    ·refine W_block (W_loop (WL_round (W_seq (Wsr ((Wp 4 [0, 1] [0, 1, 6, 20] T3 ⟨[(0, sF 0 x1), (1, sF 1 x2), (6, I 0), (20, B (decide (0 < (lI x2))))], [nR x1, eR x2]⟩ t3 (Wnt ((iteO_e hv116 (fun hb118 hv116 => W_true rfl hb118 ?_) (fun hb118 hv116 => W_false rfl hb118 ?_))))))))))
     ·refine Ww [0, 1] [0, 1, 6] ⟨[(0, sF 0 x1), (1, sF 1 x2), (6, I 0)], [nR x1, eR x2]⟩ (W_skip (thenS_n (W_seq (W_block (Wsr ((guardO_e hv116 (fun hg126 hv116 => (Wp 5 [0, 1] [1, 6, 24, 28] ((0 ≤ (0 : Int) ∧ (0 : Int) < (lI x2)) ∧ T2) ⟨[(1, sF 1 x2), (6, I 0), (24, sF 0 x1), (28, AGG [cI ((x2.getD 0 dedt).kind), cS ((x2.getD 0 dedt).path), cI ((x2.getD 0 dedt).value)])], [nR x1, eR x2]⟩ ⟨hg126, trivial, trivial⟩ (bindO_e hv116 (fun v171 hc129 hv116 => ?_)))))))))))
      obtain ⟨x127, b128⟩ := v171
      refine Wc [.ro 0] rfl rfl rfl Tryz.func126 rfl (spec_apply_ok n x1 (x2.getD 0 dedt) x127 b128 hc129) (aI (aI rfl rfl) (trivial)) rfl (Ws 5 [0, 1, 2] [1, 6, 7, 8] ⟨[(1, sF 1 x2), (6, I 0), (7, sF 2 x127), (8, B b128)], [nR x1, eR x2, nO x127]⟩ (Wnt ((W_seq (Wsr ((Ws 2 [0, 1, 2] [1, 6, 7, 33] ⟨[(1, sF 1 x2), (6, I 0), (7, sF 2 x127), (33, B (!b128))], [nR x1, eR x2, nO x127]⟩ (Wnt ((iteO_e hv116 (fun hb131 hv116 => W_true rfl hb131 ?_) (fun hb131 hv116 => W_false rfl hb131 ?_)))))))))))
      ·refine Wsr ((Ws 2 [0, 1] [4, 5] ⟨[(4, .one (.e (.nsl))), (5, B false)], [nR x1, eR x2]⟩ (WO_nilrow 4 .nod rfl (Wb [0, 1, 2] [4, 5] ⟨[(4, .one (.e (.sl 2 0 (([] : List Nod).length)))), (5, B false)], [nR x1, eR x2, nO ([] : List Nod)]⟩ (Wnt ((W_ret (thenS_r (blockS_r (thenS_r (thenS_r (blockS_r ?_))))))))))))
       cases hv116
       exact aI rfl rfl
      ·refine Ww [0, 1, 2] [1, 6, 7] ⟨[(1, sF 1 x2), (6, I 0), (7, sF 2 x127)], [nR x1, eR x2, nO x127]⟩ (W_skip (thenS_n (W_region (Ws 2 [0, 1, 2] [0, 1, 6] ⟨[(0, sF 2 x127), (1, sF 1 x2), (6, I 0)], [nR x1, eR x2, nO x127]⟩ (WO_nil rfl (blockS_n (thenS_n (W_region (Wp 3 [0, 1, 2] [0, 1, 6] T2 ⟨[(0, sF 2 x127), (1, sF 1 x2), (6, I (w64 (0 + 1)))], [nR x1, eR x2, nO x127]⟩ t2 (Wnt ((bindO_e hv116 (fun v170 hv170 hv116 => (WL_cut (spec_ApplyEdits_L1_ok w X θ x2 x1 v170 n x127 (w64 (0 + 1)) hv170) ?_))))))))))))))
       rcases v170 with _ | x152
       ·rintro _ _ ⟨rfl, rfl⟩
        refine blockS_r ?_
        cases hv116
        exact aI rfl rfl
       ·rintro _ _ ⟨rfl, rfl⟩
        refine blockS_y ?_
        cases hv116
        exact aI rfl rfl
     ·refine Ww [0, 1] [0] ⟨[(0, sF 0 x1)], [nR x1, eR x2]⟩ (W_exit (thenS_e (thenS_e (blockS_y ?_))))
      cases hv116
      exact aI rfl rfl
    ·rcases v116 with _ | x115 | _
     ·rintro _ _ ⟨rfl, rfl⟩
      refine thenS_r ?_
      cases h
      exact ⟨[0, 1, 2], True, by kernel_rfl, trivial⟩
     ·rintro _ _ ⟨rfl, rfl⟩
      refine thenS_n (Wsr ((guardO_e h (fun hg172 h => (Wp 5 [0, 1, 4] [4, 5] ((0 = 0 ∧ ([] : List Nod).length = ([] : List Nod).length ∧ ([] : List Nod).length + ((x115.drop 0).take x115.length).length ≤ 1099511627776) ∧ True) ⟨[(4, .one (.e (.sl 2 0 ((([] : List Nod) ++ ((x115.drop 0).take x115.length)).length)))), (5, B true)], [nR x1, eR x2, .row .nod (([] : List Nod) ++ ((x115.drop 0).take x115.length)) true]⟩ ⟨hg172, trivial⟩ (Wnt ((W_ret ?_))))))))
      cases h
      exact ⟨[0, 1, 2], True, by kernel_rfl, trivial⟩
     ·rintro _ _ ⟨rfl, rfl⟩
      refine thenS_n (Wsr ((guardO_e h (fun hg173 h => (Wp 5 [0, 1, 3] [4, 5] ((0 = 0 ∧ ([] : List Nod).length = ([] : List Nod).length ∧ ([] : List Nod).length + ((x1.drop 0).take x1.length).length ≤ 1099511627776) ∧ True) ⟨[(4, .one (.e (.sl 2 0 ((([] : List Nod) ++ ((x1.drop 0).take x1.length)).length)))), (5, B true)], [nR x1, eR x2, .row .nod (([] : List Nod) ++ ((x1.drop 0).take x1.length)) true]⟩ ⟨hg173, trivial⟩ (Wnt ((W_ret ?_))))))))
      cases h
      exact ⟨[0, 1, 2], True, by kernel_rfl, trivial⟩

end Go.Proofs.YtghdgncfcfdlfaaGreatDoor

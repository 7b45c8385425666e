import Derived.Test.YtnaogmahijgibaaTLt
import Derived.Test.YtnaogmahijgibaaTLx
import Derived.Test.YtnaogmahijgibaaProg
namespace Go.Proofs.Ytnaogmahijgibaa
open Go
set_option linter.unusedVariables false
noncomputable def EE : Env := ⟨Try.prog, fun _ => none, fun t => match t with | 3 => some .int | 5 => some .u8 | 33 => some .ver | 43 => some .ver | _ => none⟩
/- laws.szVersionS -/
def laws_szVersionS (x1 : List Ver) (i2 : Int) : Option (Int) :=
 iteO (decide ((w64 (i2 - ((x1.length : Nat) : Int))) < 0))
 (some (-1))
 (some (w64 (i2 - ((x1.length : Nat) : Int))))

theorem laws_szVersionS_ok (x1 : List Ver) (i2 : Int) (i5 : Int) (h : laws_szVersionS x1 i2 = some i5) : FOk EE 17 [.one (.e (.sl 0 0 x1.length)), I i2] [.row .ver x1 false] (I i5) [.row .ver x1 false] := by
  unfold laws_szVersionS at h
  refine FOk_of_W 12 1 Try.func17 rfl rfl (Nat.le_of_ble_eq_true rfl) rfl (fun w X θ => ?_)
  refine W_seq ?_
  refine W_region ?_
  refine WO_step 1 [0] [0, 1] True ⟨[(0, .one (.e (.sl 0 0 x1.length))), (1, I i2)], [.row .ver x1 false]⟩ (by kernel_rfl) trivial ?_
  refine WO_nil rfl ?_
  refine thenS_n ?_
  refine W_seq ?_
  refine W_region ?_
  refine WO_step 5 [0] [1] (True ∧ (True ∧ True)) ⟨[(1, I (w64 (i2 - ((x1.length : Nat) : Int))))], [.row .ver x1 false]⟩ (by kernel_rfl) ⟨trivial, trivial, trivial⟩ ?_
  refine WO_nil rfl ?_
  refine thenS_n ?_
  refine W_seq ?_
  refine W_seq ?_
  refine W_region ?_
  refine WO_step 2 [0] [1, 10] (True ∧ True) ⟨[(1, I (w64 (i2 - ((x1.length : Nat) : Int)))), (10, B (decide ((w64 (i2 - ((x1.length : Nat) : Int))) < 0)))], [.row .ver x1 false]⟩ (by kernel_rfl) ⟨trivial, trivial⟩ ?_
  refine WO_nil rfl ?_
  refine thenS_n ?_
  refine iteO_e h (fun hb7 h => W_true rfl hb7 ?_) (fun hb7 h => W_false rfl hb7 ?_)
  · refine W_seq ?_
    refine W_region ?_
    refine WO_step 1 [0] [4] True ⟨[(4, I (-1))], [.row .ver x1 false]⟩ (by kernel_rfl) trivial ?_
    refine WO_nil rfl ?_
    refine thenS_n ?_
    refine W_ret ?_
    refine thenS_r ?_
    cases h
    exact ⟨[0], by kernel_rfl⟩
  · refine W_sub [0] [1] (st' := ⟨[(1, I (w64 (i2 - ((x1.length : Nat) : Int))))], [.row .ver x1 false]⟩) (by kernel_rfl) ?_
    refine W_skip ?_
    refine thenS_n ?_
    refine W_seq ?_
    refine W_region ?_
    refine WO_step 2 [0] [4] True ⟨[(4, I (w64 (i2 - ((x1.length : Nat) : Int))))], [.row .ver x1 false]⟩ (by kernel_rfl) trivial ?_
    refine WO_nil rfl ?_
    refine thenS_n ?_
    refine W_ret ?_
    cases h
    exact ⟨[0], by kernel_rfl⟩

/- laws.toVersion -/
def laws_toVersion (x1 : Ver) : Option (Int × Int × Int) :=
 some (x1.node, x1.value, x1.tm)

theorem laws_toVersion_ok (x1 : Ver) (i2 : Int) (i3 : Int) (i4 : Int) (h : laws_toVersion x1 = some (i2, i3, i4)) : FOk EE 30 [AGG [cI x1.node, cI x1.value, cI x1.tm]] [] (AGG [cI i2, cI i3, cI i4]) [] := by
  unfold laws_toVersion at h
  refine FOk_of_W 14 0 Try.func30 rfl rfl (Nat.le_of_ble_eq_true rfl) rfl (fun w X θ => ?_)
  refine W_seq ?_
  refine W_region ?_
  refine WO_step 2 [0, 1] [1, 2] (True ∧ (True ∧ True)) ⟨[(1, .one (.e (.p 0 0))), (2, .one (.e (.p 1 0)))], [.cells [cI x1.node, cI x1.value, cI x1.tm], .cells [cI 0, cI 0, cI 0]]⟩ (by kernel_rfl) ⟨trivial, trivial, trivial⟩ ?_
  refine WO_nil rfl ?_
  refine thenS_n ?_
  refine W_seq ?_
  refine W_region ?_
  refine WO_step 1 [0, 1, 2] [1, 2, 3] (True ∧ True) ⟨[(1, .one (.e (.p 0 0))), (2, .one (.e (.p 1 0))), (3, .one (.e (.p 2 0)))], [.cells [cI x1.node, cI x1.value, cI x1.tm], .cells [cI 0, cI 0, cI 0], .cells [cI 0, cI 0, cI 0]]⟩ (by kernel_rfl) ⟨trivial, trivial⟩ ?_
  refine WO_nil rfl ?_
  refine thenS_n ?_
  refine W_seq ?_
  refine W_region ?_
  refine WO_step 4 [0, 1, 2] [1, 2, 3] (True ∧ (True ∧ True)) ⟨[(1, .one (.e (.p 0 0))), (2, .one (.e (.p 1 0))), (3, .one (.e (.p 2 0)))], [.cells [cI x1.node, cI x1.value, cI x1.tm], .cells [cI 0, cI 0, cI 0], .cells [cI x1.node, cI 0, cI 0]]⟩ (by kernel_rfl) ⟨trivial, trivial, trivial⟩ ?_
  refine WO_nil rfl ?_
  refine thenS_n ?_
  refine W_seq ?_
  refine W_region ?_
  refine WO_step 4 [0, 1, 2] [1, 2, 3] (True ∧ (True ∧ True)) ⟨[(1, .one (.e (.p 0 0))), (2, .one (.e (.p 1 0))), (3, .one (.e (.p 2 0)))], [.cells [cI x1.node, cI x1.value, cI x1.tm], .cells [cI 0, cI 0, cI 0], .cells [cI x1.node, cI x1.value, cI 0]]⟩ (by kernel_rfl) ⟨trivial, trivial, trivial⟩ ?_
  refine WO_nil rfl ?_
  refine thenS_n ?_
  refine W_seq ?_
  refine W_region ?_
  refine WO_step 4 [1, 2] [2, 3] (True ∧ (True ∧ True)) ⟨[(2, .one (.e (.p 0 0))), (3, .one (.e (.p 1 0)))], [.cells [cI 0, cI 0, cI 0], .cells [cI x1.node, cI x1.value, cI x1.tm]]⟩ (by kernel_rfl) ⟨trivial, trivial, trivial⟩ ?_
  refine WO_nil rfl ?_
  refine thenS_n ?_
  refine W_seq ?_
  refine W_region ?_
  refine WO_step 2 [0] [2] (True ∧ (True ∧ True)) ⟨[(2, .one (.e (.p 0 0)))], [.cells [cI x1.node, cI x1.value, cI x1.tm]]⟩ (by kernel_rfl) ⟨trivial, trivial, trivial⟩ ?_
  refine WO_nil rfl ?_
  refine thenS_n ?_
  refine W_ret ?_
  cases h
  exact ⟨[], by kernel_rfl⟩

/- laws.toVersionS -/
def laws_toVersionS_L4 (x1 : List Ver) : Nat → (List Ver) → Int → Option ((List Ver))
| 0, _, _ => none
| n + 1, x186, i187 =>
 iteO (decide (i187 < ((x1.length : Nat) : Int)))
 (guardO (0 ≤ i187 ∧ i187 < ((x1.length : Nat) : Int)) <|
 bindO (laws_toVersion (x1.getD i187.toNat dver)) fun (i218, i219, i220) =>
 guardO (0 ≤ i187 ∧ i187 < ((x186.length : Nat) : Int)) <|
 laws_toVersionS_L4 x1 n (x186.set i187.toNat (⟨i218, i219, i220⟩ : Ver)) (w64 (i187 + 1)))
 (some x186)

theorem laws_toVersionS_L4_ok (w : World) (X : Nat → Prop) (θ : List Loc) (x1 : List Ver) (x206 : (List Ver)) : ∀ (n : Nat) (x186 : List Ver) (i187 : Int), laws_toVersionS_L4 x1 n x186 i187 = some x206 → WL EE ⟨w, X, θ, 23, 1⟩ (subC [1, 1, 0, 1, 4, 4] (bodyC Try.f19)) (fun (e : Exit) (s : St) => e = .exit 0 ∧ s = ⟨[(3, .one (.e (.sl 1 0 x206.length)))], [.row .ver x1 false, .row .ver x206 true]⟩) ⟨[(0, .one (.e (.sl 0 0 x1.length))), (3, .one (.e (.sl 1 0 x186.length))), (4, I i187)], [.row .ver x1 false, .row .ver x186 true]⟩ := by
  intro n
  induction n with
  | zero => intro _ _ h; exact none_e h
  | succ n ih =>
    intro x186 i187 h
    rw [laws_toVersionS_L4] at h
    refine WL_round ?_
    refine W_seq ?_
    refine W_seq ?_
    refine W_region ?_
    refine WO_step 4 [0, 1] [0, 3, 4, 11] (True ∧ (True ∧ True)) ⟨[(0, .one (.e (.sl 0 0 x1.length))), (3, .one (.e (.sl 1 0 x186.length))), (4, I i187), (11, B (decide (i187 < ((x1.length : Nat) : Int))))], [.row .ver x1 false, .row .ver x186 true]⟩ (by kernel_rfl) ⟨trivial, trivial, trivial⟩ ?_
    refine WO_nil rfl ?_
    refine thenS_n ?_
    refine iteO_e h (fun hb209 h => W_true rfl hb209 ?_) (fun hb209 h => W_false rfl hb209 ?_)
    · refine W_sub [0, 1] [0, 3, 4] (st' := ⟨[(0, .one (.e (.sl 0 0 x1.length))), (3, .one (.e (.sl 1 0 x186.length))), (4, I i187)], [.row .ver x1 false, .row .ver x186 true]⟩) (by kernel_rfl) ?_
      refine W_skip ?_
      refine thenS_n ?_
      refine W_seq ?_
      refine W_block ?_
      refine W_region ?_
      refine guardO_e h (fun hg217 h => ?_)
      refine WO_step 6 [0, 1] [0, 3, 4, 14, 15, 19] ((0 ≤ i187 ∧ i187 < ((x1.length : Nat) : Int)) ∧ (True ∧ True)) ⟨[(0, .one (.e (.sl 0 0 x1.length))), (3, .one (.e (.sl 1 0 x186.length))), (4, I i187), (14, .one (.e (.sl 1 0 x186.length))), (15, I i187), (19, AGG [cI ((x1.getD i187.toNat dver).node), cI ((x1.getD i187.toNat dver).value), cI ((x1.getD i187.toNat dver).tm)])], [.row .ver x1 false, .row .ver x186 true]⟩ (by kernel_rfl) ⟨hg217, trivial, trivial⟩ ?_
      refine bindO_e h (fun v223 hc221 h => ?_)
      obtain ⟨i218, i219, i220⟩ := v223
      refine WO_call [] Try.f30 rfl rfl rfl (by kernel_rfl) rfl rfl (by kernel_rfl) (laws_toVersion_ok (x1.getD i187.toNat dver) i218 i219 i220 hc221) (trivial) rfl ?_
      refine guardO_e h (fun hg222 h => ?_)
      refine WO_step 2 [0, 1] [0, 3, 4] ((0 ≤ i187 ∧ i187 < ((x186.length : Nat) : Int)) ∧ (True ∧ True)) ⟨[(0, .one (.e (.sl 0 0 x1.length))), (3, .one (.e (.sl 1 0 x186.length))), (4, I i187)], [.row .ver x1 false, .row .ver (x186.set i187.toNat (⟨i218, i219, i220⟩ : Ver)) true]⟩ (by kernel_rfl) ⟨hg222, trivial, trivial⟩ ?_
      refine WO_eq (st' := ⟨[(0, .one (.e (.sl 0 0 x1.length))), (3, .one (.e (.sl 1 0 ((x186.set i187.toNat (⟨i218, i219, i220⟩ : Ver)).length)))), (4, I i187)], [.row .ver x1 false, .row .ver (x186.set i187.toNat (⟨i218, i219, i220⟩ : Ver)) true]⟩) (by simp only [List.length_set]) ?_
      refine WO_nil rfl ?_
      refine blockS_n ?_
      refine thenS_n ?_
      refine W_region ?_
      refine WO_step 3 [0, 1] [0, 3, 4] (True ∧ True) ⟨[(0, .one (.e (.sl 0 0 x1.length))), (3, .one (.e (.sl 1 0 ((x186.set i187.toNat (⟨i218, i219, i220⟩ : Ver)).length)))), (4, I (w64 (i187 + 1)))], [.row .ver x1 false, .row .ver (x186.set i187.toNat (⟨i218, i219, i220⟩ : Ver)) true]⟩ (by kernel_rfl) ⟨trivial, trivial⟩ ?_
      refine WO_nil rfl ?_
      refine thenS_n ?_
      exact ih _ _ h
    · refine W_sub [0, 1] [3] (st' := ⟨[(3, .one (.e (.sl 1 0 x186.length)))], [.row .ver x1 false, .row .ver x186 true]⟩) (by kernel_rfl) ?_
      refine W_exit ?_
      refine thenS_e ?_
      refine thenS_e ?_
      cases h
      exact And.intro rfl rfl

def laws_toVersionS (n : Nat) (x1 : List Ver) : Option ((List Ver)) :=
 guardO ((((x1.length : Nat) : Int) : Int) = ((x1.length : Nat) : Int) ∧ 0 ≤ ((x1.length : Nat) : Int) ∧ ((x1.length : Nat) : Int) ≤ 1099511627776) <|
 bindO (laws_toVersionS_L4 x1 n (List.replicate (((x1.length : Nat) : Int).toNat) dver) 0) fun x206 =>
 some x206

theorem laws_toVersionS_ok (n : Nat) (x1 : List Ver) (x113 : List Ver) (h : laws_toVersionS n x1 = some x113) : FOk EE 19 [.one (.e (.sl 0 0 x1.length))] [.row .ver x1 false] (.one (.e (.sl 1 0 x113.length))) [.row .ver x1 false, .row .ver x113 true] := by
  unfold laws_toVersionS at h
  refine FOk_of_W 23 1 Try.func19 rfl rfl (Nat.le_of_ble_eq_true rfl) rfl (fun w X θ => ?_)
  refine W_seq ?_
  refine W_region ?_
  refine WO_step 1 [0] [0] True ⟨[(0, .one (.e (.sl 0 0 x1.length)))], [.row .ver x1 false]⟩ (by kernel_rfl) trivial ?_
  refine WO_nil rfl ?_
  refine thenS_n ?_
  refine W_seq ?_
  refine W_region ?_
  refine guardO_e h (fun hg114 h => ?_)
  refine WO_step 4 [0, 1] [0, 3] (True ∧ (((((x1.length : Nat) : Int) : Int) = ((x1.length : Nat) : Int) ∧ 0 ≤ ((x1.length : Nat) : Int) ∧ ((x1.length : Nat) : Int) ≤ 1099511627776) ∧ True)) ⟨[(0, .one (.e (.sl 0 0 x1.length))), (3, .one (.e (.sl 1 0 ((List.replicate (((x1.length : Nat) : Int).toNat) dver).length))))], [.row .ver x1 false, .row .ver (List.replicate (((x1.length : Nat) : Int).toNat) dver) true]⟩ (by kernel_rfl) ⟨trivial, hg114, trivial⟩ ?_
  refine WO_nil rfl ?_
  refine thenS_n ?_
  refine W_seq ?_
  refine W_seq ?_
  refine W_region ?_
  refine WO_step 1 [0, 1] [0, 3, 4] True ⟨[(0, .one (.e (.sl 0 0 x1.length))), (3, .one (.e (.sl 1 0 ((List.replicate (((x1.length : Nat) : Int).toNat) dver).length)))), (4, I 0)], [.row .ver x1 false, .row .ver (List.replicate (((x1.length : Nat) : Int).toNat) dver) true]⟩ (by kernel_rfl) trivial ?_
  refine WO_nil rfl ?_
  refine thenS_n ?_
  refine W_block ?_
  refine W_loop ?_
  refine bindO_e h (fun x206 hx206 h => ?_)
  refine WL_cut (laws_toVersionS_L4_ok w X θ x1 x206 n (List.replicate (((x1.length : Nat) : Int).toNat) dver) 0 hx206) ?_
  rintro _ _ ⟨rfl, rfl⟩
  refine blockS_y ?_
  refine thenS_n ?_
  refine W_seq ?_
  refine W_region ?_
  refine WO_step 2 [0, 1] [2] True ⟨[(2, .one (.e (.sl 1 0 x206.length)))], [.row .ver x1 false, .row .ver x206 true]⟩ (by kernel_rfl) trivial ?_
  refine WO_nil rfl ?_
  refine thenS_n ?_
  refine W_ret ?_
  cases h
  exact ⟨[0, 1], by kernel_rfl⟩

/- spec.inRange -/
def spec_inRange (i1 : Int) (i2 : Int) (i3 : Int) : Bool :=
((decide (i2 ≤ i1)) && (decide (i1 ≤ i3)))

theorem spec_inRange_ok (i1 : Int) (i2 : Int) (i3 : Int) : FOk EE 47 [I i1, I i2, I i3] [] (B (spec_inRange i1 i2 i3)) [] := by
  refine FOk_of_W 15 0 Try.func47 rfl rfl (Nat.le_of_ble_eq_true rfl) rfl (fun w X θ => ?_)
  refine W_seq ?_
  refine W_region ?_
  refine WO_step 1 [] [0, 1, 2] True ⟨[(0, I i1), (1, I i2), (2, I i3)], []⟩ (by kernel_rfl) trivial ?_
  refine WO_nil rfl ?_
  refine thenS_n ?_
  refine W_seq ?_
  refine W_region ?_
  refine WO_step 4 [] [0, 2, 10] (True ∧ True) ⟨[(0, I i1), (2, I i3), (10, B (decide (i2 ≤ i1)))], []⟩ (by kernel_rfl) ⟨trivial, trivial⟩ ?_
  refine WO_thru ⟨[(6, B ((decide (i2 ≤ i1)) && (decide (i1 ≤ i3))))], []⟩ ?_ ?_
  · refine WO_if 10 rfl (fun hb10 => ?_) (fun hb10 => ?_)
    · refine WO_step 5 [] [6] (True ∧ True) ⟨[(6, B (decide (i1 ≤ i3)))], []⟩ (by kernel_rfl) ⟨trivial, trivial⟩ ?_
      exact WO_nil rfl ⟨rfl, by first | rfl | (rw [hb10]; first | done | rfl)⟩
    · refine WO_step 5 [] [6] True ⟨[(6, B false)], []⟩ (by kernel_rfl) trivial ?_
      exact WO_nil rfl ⟨rfl, by first | rfl | (rw [hb10]; first | done | rfl)⟩
  · refine thenS_n ?_
    refine W_ret ?_
    exact ⟨[], by kernel_rfl⟩

/- spec.validVersions -/
def spec_validVersions_L52 (x1 : List Ver) (i2855 : Int) : Nat → Int → Option ((Unit) ⊕ (Unit))
| 0, _ => none
| n + 1, i3382 =>
 iteO (decide (i3382 < i2855))
 (guardO (0 ≤ i3382 ∧ i3382 < ((x1.length : Nat) : Int)) <|
 guardO (0 ≤ i2855 ∧ i2855 < ((x1.length : Nat) : Int)) <|
 bindO (iteO (decide (((x1.getD i3382.toNat dver).node) = ((x1.getD i2855.toNat dver).node)))
 (guardO (0 ≤ i3382 ∧ i3382 < ((x1.length : Nat) : Int)) <|
 guardO (0 ≤ i2855 ∧ i2855 < ((x1.length : Nat) : Int)) <|
 some (decide (((x1.getD i3382.toNat dver).tm) = ((x1.getD i2855.toNat dver).tm))))
 (some false)) fun b3421 =>
 iteO b3421
 (some (.inl ()))
 (spec_validVersions_L52 x1 i2855 n (w64 (i3382 + 1))))
 (some (.inr ()))

theorem spec_validVersions_L52_ok (w : World) (X : Nat → Prop) (θ : List Loc) (x1 : List Ver) (i2855 : Int) (v : (Unit) ⊕ (Unit)) : ∀ (n : Nat) (i3382 : Int), spec_validVersions_L52 x1 i2855 n i3382 = some v → WL EE ⟨w, X, θ, 86, 1⟩ (subC [1, 0, 1, 4, 4, 1, 0, 4, 1, 1, 4, 4] (bodyC Try.f36)) (fun (e : Exit) (s : St) => (match v with | (.inl _) => e = .ret ∧ s = ⟨[(2, B false)], [.row .ver x1 false]⟩ | (.inr _) => e = .exit 2 ∧ s = ⟨[(0, .one (.e (.sl 0 0 x1.length))), (3, I i2855)], [.row .ver x1 false]⟩ : Prop)) ⟨[(0, .one (.e (.sl 0 0 x1.length))), (3, I i2855), (4, I i3382)], [.row .ver x1 false]⟩ := by
  intro n
  induction n with
  | zero => intro _ h; exact none_e h
  | succ n ih =>
    intro i3382 h
    rw [spec_validVersions_L52] at h
    refine WL_round ?_
    refine W_seq ?_
    refine W_seq ?_
    refine W_region ?_
    refine WO_step 3 [0] [0, 3, 4, 56] (True ∧ True) ⟨[(0, .one (.e (.sl 0 0 x1.length))), (3, I i2855), (4, I i3382), (56, B (decide (i3382 < i2855)))], [.row .ver x1 false]⟩ (by kernel_rfl) ⟨trivial, trivial⟩ ?_
    refine WO_nil rfl ?_
    refine thenS_n ?_
    refine iteO_e h (fun hb3406 h => W_true rfl hb3406 ?_) (fun hb3406 h => W_false rfl hb3406 ?_)
    · refine W_sub [0] [0, 3, 4] (st' := ⟨[(0, .one (.e (.sl 0 0 x1.length))), (3, I i2855), (4, I i3382)], [.row .ver x1 false]⟩) (by kernel_rfl) ?_
      refine W_skip ?_
      refine thenS_n ?_
      refine W_seq ?_
      refine W_block ?_
      refine W_seq ?_
      refine guardO_e h (fun hg3416 h => ?_)
      refine guardO_e h (fun hg3417 h => ?_)
      refine bindO_e h (fun b3421 hv3422 h => ?_)
      refine W_cut (Q' := fun (e : Exit) (s : St) => e = .normal ∧ s = ⟨[(0, .one (.e (.sl 0 0 x1.length))), (3, I i2855), (4, I i3382), (82, B b3421)], [.row .ver x1 false]⟩) ?_ ?_
      · refine iteO_e hv3422 (fun hb3418 hv3422 => ?_) (fun hb3418 hv3422 => ?_)
        · refine guardO_e hv3422 (fun hg3419 hv3422 => ?_)
          refine guardO_e hv3422 (fun hg3420 hv3422 => ?_)
          cases hv3422
          refine W_draw [] true (by kernel_rfl) (by kernel_rfl) ?_
          refine WD_takeK [0, 1, 2, 3, 4, 5, 6, 7, 8, 9, 10, 11] [0, 3, 4, 70] [0, 3, 4, 70] (φ := ((0 ≤ i3382 ∧ i3382 < ((x1.length : Nat) : Int)) ∧ (0 ≤ i3382 ∧ i3382 < ((x1.length : Nat) : Int)) ∧ (True ∧ True ∧ ((0 ≤ i2855 ∧ i2855 < ((x1.length : Nat) : Int)) ∧ (0 ≤ i2855 ∧ i2855 < ((x1.length : Nat) : Int)) ∧ (True ∧ True ∧ (True ∧ True ∧ True)))))) (ls' := #[true, true, true, true, true, true, true, true, true, true, true, true, false, false, false, false, false, false, false, false, false, false, false, false]) (Ts' := [(0, .one (.e (.sl 0 0 x1.length))), (3, I i2855), (4, I i3382), (70, B (decide (((x1.getD i3382.toNat dver).node) = ((x1.getD i2855.toNat dver).node))))]) (st' := ⟨[(0, .one (.e (.sl 0 0 x1.length))), (3, I i2855), (4, I i3382), (70, B (decide (((x1.getD i3382.toNat dver).node) = ((x1.getD i2855.toNat dver).node))))], [.row .ver x1 false]⟩) (n2 := 12) (by kernel_rfl) ⟨hg3416, hg3416, trivial, trivial, hg3417, hg3417, trivial, trivial, trivial, trivial, trivial⟩ rfl ?_
          refine WD_known 70 true rfl rfl hb3418 ?_
          refine WD_takeK [12, 13, 14, 15, 16, 17, 18, 19, 20, 21, 22, 23] [0, 3, 4, 82] [0, 3, 4, 82] (φ := ((0 ≤ i3382 ∧ i3382 < ((x1.length : Nat) : Int)) ∧ (0 ≤ i3382 ∧ i3382 < ((x1.length : Nat) : Int)) ∧ (True ∧ True ∧ ((0 ≤ i2855 ∧ i2855 < ((x1.length : Nat) : Int)) ∧ (0 ≤ i2855 ∧ i2855 < ((x1.length : Nat) : Int)) ∧ (True ∧ True ∧ (True ∧ True ∧ True)))))) (ls' := #[true, true, true, true, true, true, true, true, true, true, true, true, true, true, true, true, true, true, true, true, true, true, true, true]) (Ts' := [(0, .one (.e (.sl 0 0 x1.length))), (3, I i2855), (4, I i3382), (82, B (decide (((x1.getD i3382.toNat dver).tm) = ((x1.getD i2855.toNat dver).tm))))]) (st' := ⟨[(0, .one (.e (.sl 0 0 x1.length))), (3, I i2855), (4, I i3382), (82, B (decide (((x1.getD i3382.toNat dver).tm) = ((x1.getD i2855.toNat dver).tm))))], [.row .ver x1 false]⟩) (n2 := 0) (by kernel_rfl) ⟨hg3419, hg3419, trivial, trivial, hg3420, hg3420, trivial, trivial, trivial, trivial, trivial⟩ rfl ?_
          exact WD_done [0] [0, 3, 4, 82] (st' := ⟨[(0, .one (.e (.sl 0 0 x1.length))), (3, I i2855), (4, I i3382), (82, B (decide (((x1.getD i3382.toNat dver).tm) = ((x1.getD i2855.toNat dver).tm))))], [.row .ver x1 false]⟩) (by kernel_rfl) (by kernel_rfl) (And.intro rfl rfl)
        · cases hv3422
          refine W_draw [] true (by kernel_rfl) (by kernel_rfl) ?_
          refine WD_takeK [0, 1, 2, 3, 4, 5, 6, 7, 8, 9, 10, 11] [0, 3, 4, 70] [0, 3, 4, 70] (φ := ((0 ≤ i3382 ∧ i3382 < ((x1.length : Nat) : Int)) ∧ (0 ≤ i3382 ∧ i3382 < ((x1.length : Nat) : Int)) ∧ (True ∧ True ∧ ((0 ≤ i2855 ∧ i2855 < ((x1.length : Nat) : Int)) ∧ (0 ≤ i2855 ∧ i2855 < ((x1.length : Nat) : Int)) ∧ (True ∧ True ∧ (True ∧ True ∧ True)))))) (ls' := #[true, true, true, true, true, true, true, true, true, true, true, true, false, false, false, false, false, false, false, false, false, false, false, false]) (Ts' := [(0, .one (.e (.sl 0 0 x1.length))), (3, I i2855), (4, I i3382), (70, B (decide (((x1.getD i3382.toNat dver).node) = ((x1.getD i2855.toNat dver).node))))]) (st' := ⟨[(0, .one (.e (.sl 0 0 x1.length))), (3, I i2855), (4, I i3382), (70, B (decide (((x1.getD i3382.toNat dver).node) = ((x1.getD i2855.toNat dver).node))))], [.row .ver x1 false]⟩) (n2 := 12) (by kernel_rfl) ⟨hg3416, hg3416, trivial, trivial, hg3417, hg3417, trivial, trivial, trivial, trivial, trivial⟩ rfl ?_
          refine WD_known 70 false rfl rfl hb3418 ?_
          refine WD_takeK [12, 13, 14, 15, 16, 17, 18, 19, 20, 21, 22, 23] [0, 3, 4, 82] [0, 3, 4, 82] (φ := True) (ls' := #[true, true, true, true, true, true, true, true, true, true, true, true, true, true, true, true, true, true, true, true, true, true, true, true]) (Ts' := [(0, .one (.e (.sl 0 0 x1.length))), (3, I i2855), (4, I i3382), (82, B false)]) (st' := ⟨[(0, .one (.e (.sl 0 0 x1.length))), (3, I i2855), (4, I i3382), (82, B false)], [.row .ver x1 false]⟩) (n2 := 0) (by kernel_rfl) trivial rfl ?_
          exact WD_done [0] [0, 3, 4, 82] (st' := ⟨[(0, .one (.e (.sl 0 0 x1.length))), (3, I i2855), (4, I i3382), (82, B false)], [.row .ver x1 false]⟩) (by kernel_rfl) (by kernel_rfl) (And.intro rfl rfl)
      · rintro _ _ ⟨rfl, rfl⟩
        refine thenS_n ?_
        refine iteO_e h (fun hb3424 h => W_true rfl hb3424 ?_) (fun hb3424 h => W_false rfl hb3424 ?_)
        · refine W_seq ?_
          refine W_region ?_
          refine WO_step 1 [0] [2] True ⟨[(2, B false)], [.row .ver x1 false]⟩ (by kernel_rfl) trivial ?_
          refine WO_nil rfl ?_
          refine thenS_n ?_
          refine W_ret ?_
          refine blockS_r ?_
          refine thenS_r ?_
          refine thenS_r ?_
          cases h
          exact And.intro rfl rfl
        · refine W_sub [0] [0, 3, 4] (st' := ⟨[(0, .one (.e (.sl 0 0 x1.length))), (3, I i2855), (4, I i3382)], [.row .ver x1 false]⟩) (by kernel_rfl) ?_
          refine W_skip ?_
          refine blockS_n ?_
          refine thenS_n ?_
          refine W_region ?_
          refine WO_step 3 [0] [0, 3, 4] (True ∧ True) ⟨[(0, .one (.e (.sl 0 0 x1.length))), (3, I i2855), (4, I (w64 (i3382 + 1)))], [.row .ver x1 false]⟩ (by kernel_rfl) ⟨trivial, trivial⟩ ?_
          refine WO_nil rfl ?_
          refine thenS_n ?_
          exact ih _ h
    · refine W_sub [0] [0, 3] (st' := ⟨[(0, .one (.e (.sl 0 0 x1.length))), (3, I i2855)], [.row .ver x1 false]⟩) (by kernel_rfl) ?_
      refine W_exit ?_
      refine thenS_e ?_
      refine thenS_e ?_
      cases h
      exact And.intro rfl rfl

def spec_validVersions_L48 (x1 : List Ver) : Nat → Int → Option ((Unit) ⊕ (Unit))
| 0, _ => none
| n + 1, i2855 =>
 iteO (decide (i2855 < ((x1.length : Nat) : Int)))
 (guardO (0 ≤ i2855 ∧ i2855 < ((x1.length : Nat) : Int)) <|
 bindO (iteO (!(spec_inRange ((x1.getD i2855.toNat dver).node) 0 11))
 (some true)
 (guardO (0 ≤ i2855 ∧ i2855 < ((x1.length : Nat) : Int)) <|
 iteO (!(spec_inRange ((x1.getD i2855.toNat dver).value) (-1000) 1000))
 (some true)
 (guardO (0 ≤ i2855 ∧ i2855 < ((x1.length : Nat) : Int)) <|
 iteO (!(spec_inRange ((x1.getD i2855.toNat dver).tm) 0 100))
 (some true)
 (iteO (decide (0 < i2855))
 (guardO (0 ≤ i2855 ∧ i2855 < ((x1.length : Nat) : Int)) <|
 guardO (0 ≤ (w64 (i2855 - 1)) ∧ (w64 (i2855 - 1)) < ((x1.length : Nat) : Int)) <|
 some (decide (((x1.getD i2855.toNat dver).tm) < ((x1.getD ((w64 (i2855 - 1)).toNat) dver).tm))))
 (some false))))) fun b3294 =>
 iteO b3294
 (some (.inl ()))
 (bindO (spec_validVersions_L52 x1 i2855 n 0) fun v3425 =>
 match v3425 with
 | (.inl _) => (some (.inl ()))
 | (.inr _) => (spec_validVersions_L48 x1 n (w64 (i2855 + 1)))
))
 (some (.inr ()))

theorem spec_validVersions_L48_ok (w : World) (X : Nat → Prop) (θ : List Loc) (x1 : List Ver) (v : (Unit) ⊕ (Unit)) : ∀ (n : Nat) (i2855 : Int), spec_validVersions_L48 x1 n i2855 = some v → WL EE ⟨w, X, θ, 86, 1⟩ (subC [1, 0, 1, 4, 4] (bodyC Try.f36)) (fun (e : Exit) (s : St) => (match v with | (.inl _) => e = .ret ∧ s = ⟨[(2, B false)], [.row .ver x1 false]⟩ | (.inr _) => e = .exit 0 ∧ s = ⟨[(0, .one (.e (.sl 0 0 x1.length)))], [.row .ver x1 false]⟩ : Prop)) ⟨[(0, .one (.e (.sl 0 0 x1.length))), (3, I i2855)], [.row .ver x1 false]⟩ := by
  intro n
  induction n with
  | zero => intro _ h; exact none_e h
  | succ n ih =>
    intro i2855 h
    rw [spec_validVersions_L48] at h
    refine WL_round ?_
    refine W_seq ?_
    refine W_seq ?_
    refine W_region ?_
    refine WO_step 4 [0] [0, 3, 8] (True ∧ (True ∧ True)) ⟨[(0, .one (.e (.sl 0 0 x1.length))), (3, I i2855), (8, B (decide (i2855 < ((x1.length : Nat) : Int))))], [.row .ver x1 false]⟩ (by kernel_rfl) ⟨trivial, trivial, trivial⟩ ?_
    refine WO_nil rfl ?_
    refine thenS_n ?_
    refine iteO_e h (fun hb3143 h => W_true rfl hb3143 ?_) (fun hb3143 h => W_false rfl hb3143 ?_)
    · refine W_sub [0] [0, 3] (st' := ⟨[(0, .one (.e (.sl 0 0 x1.length))), (3, I i2855)], [.row .ver x1 false]⟩) (by kernel_rfl) ?_
      refine W_skip ?_
      refine thenS_n ?_
      refine W_seq ?_
      refine W_block ?_
      refine W_seq ?_
      refine W_seq ?_
      refine guardO_e h (fun hg3285 h => ?_)
      refine bindO_e h (fun b3294 hv3295 h => ?_)
      refine W_cut (Q' := fun (e : Exit) (s : St) => e = .normal ∧ s = ⟨[(0, .one (.e (.sl 0 0 x1.length))), (3, I i2855), (53, B b3294)], [.row .ver x1 false]⟩) ?_ ?_
      · refine iteO_e hv3295 (fun hb3286 hv3295 => ?_) (fun hb3286 hv3295 => ?_)
        · cases hv3295
          refine W_draw [] false (by kernel_rfl) (by kernel_rfl) ?_
          refine WD_takeK [0, 1, 2, 3, 4] [0, 3, 15] [0, 3, 15] (φ := ((0 ≤ i2855 ∧ i2855 < ((x1.length : Nat) : Int)) ∧ (0 ≤ i2855 ∧ i2855 < ((x1.length : Nat) : Int)) ∧ (True ∧ True ∧ True))) (ls' := #[true, true, true, true, true, false, false, false, false, false, false, false, false, false, false, false, false, false, false, false, false, false, false, false, false, false, false, false, false, false, false, false, false, false, false, false, false, false, false, false, false, false, false]) (Ts' := [(0, .one (.e (.sl 0 0 x1.length))), (3, I i2855), (15, I ((x1.getD i2855.toNat dver).node))]) (st' := ⟨[(0, .one (.e (.sl 0 0 x1.length))), (3, I i2855), (15, I ((x1.getD i2855.toNat dver).node))], [.row .ver x1 false]⟩) (n2 := 38) (by kernel_rfl) ⟨hg3285, hg3285, trivial, trivial, trivial⟩ rfl ?_
          refine WD_all [5] (n := 37) (by kernel_rfl) rfl ?_
          refine WM_call [] Try.f47 rfl rfl (by kernel_rfl) rfl rfl (by kernel_rfl) (spec_inRange_ok ((x1.getD i2855.toNat dver).node) 0 11) (trivial) rfl (And.intro rfl (trivial)) ?_
          refine WD_takeK [6, 7] [0, 3, 18] [0, 3, 18] (φ := True) (ls' := #[true, true, true, true, true, true, true, true, false, false, false, false, false, false, false, false, false, false, false, false, false, false, false, false, false, false, false, false, false, false, false, false, false, false, false, false, false, false, false, false, false, false, false]) (Ts' := [(0, .one (.e (.sl 0 0 x1.length))), (3, I i2855), (18, B (!(spec_inRange ((x1.getD i2855.toNat dver).node) 0 11)))]) (st' := ⟨[(0, .one (.e (.sl 0 0 x1.length))), (3, I i2855), (18, B (!(spec_inRange ((x1.getD i2855.toNat dver).node) 0 11)))], [.row .ver x1 false]⟩) (n2 := 35) (by kernel_rfl) trivial rfl ?_
          refine WD_known 18 true rfl rfl hb3286 ?_
          refine WD_takeK [8, 9, 10, 11, 12, 13, 14, 15, 16, 17, 18, 19, 20, 21, 22, 23, 24, 25, 26, 27, 28, 29, 30, 31, 32, 33, 34, 35, 36, 37, 38, 39, 40, 41, 42] [0, 3, 53] [0, 3, 53] (φ := True) (ls' := #[true, true, true, true, true, true, true, true, true, true, true, true, true, true, true, true, true, true, true, true, true, true, true, true, true, true, true, true, true, true, true, true, true, true, true, true, true, true, true, true, true, true, true]) (Ts' := [(0, .one (.e (.sl 0 0 x1.length))), (3, I i2855), (53, B true)]) (st' := ⟨[(0, .one (.e (.sl 0 0 x1.length))), (3, I i2855), (53, B true)], [.row .ver x1 false]⟩) (n2 := 0) (by kernel_rfl) trivial rfl ?_
          exact WD_done [0] [0, 3, 53] (st' := ⟨[(0, .one (.e (.sl 0 0 x1.length))), (3, I i2855), (53, B true)], [.row .ver x1 false]⟩) (by kernel_rfl) (by kernel_rfl) (And.intro rfl rfl)
        · refine guardO_e hv3295 (fun hg3287 hv3295 => ?_)
          refine iteO_e hv3295 (fun hb3288 hv3295 => ?_) (fun hb3288 hv3295 => ?_)
          · cases hv3295
            refine W_draw [] false (by kernel_rfl) (by kernel_rfl) ?_
            refine WD_takeK [0, 1, 2, 3, 4] [0, 3, 15] [0, 3, 15] (φ := ((0 ≤ i2855 ∧ i2855 < ((x1.length : Nat) : Int)) ∧ (0 ≤ i2855 ∧ i2855 < ((x1.length : Nat) : Int)) ∧ (True ∧ True ∧ True))) (ls' := #[true, true, true, true, true, false, false, false, false, false, false, false, false, false, false, false, false, false, false, false, false, false, false, false, false, false, false, false, false, false, false, false, false, false, false, false, false, false, false, false, false, false, false]) (Ts' := [(0, .one (.e (.sl 0 0 x1.length))), (3, I i2855), (15, I ((x1.getD i2855.toNat dver).node))]) (st' := ⟨[(0, .one (.e (.sl 0 0 x1.length))), (3, I i2855), (15, I ((x1.getD i2855.toNat dver).node))], [.row .ver x1 false]⟩) (n2 := 38) (by kernel_rfl) ⟨hg3285, hg3285, trivial, trivial, trivial⟩ rfl ?_
            refine WD_all [5] (n := 37) (by kernel_rfl) rfl ?_
            refine WM_call [] Try.f47 rfl rfl (by kernel_rfl) rfl rfl (by kernel_rfl) (spec_inRange_ok ((x1.getD i2855.toNat dver).node) 0 11) (trivial) rfl (And.intro rfl (trivial)) ?_
            refine WD_takeK [6, 7] [0, 3, 18] [0, 3, 18] (φ := True) (ls' := #[true, true, true, true, true, true, true, true, false, false, false, false, false, false, false, false, false, false, false, false, false, false, false, false, false, false, false, false, false, false, false, false, false, false, false, false, false, false, false, false, false, false, false]) (Ts' := [(0, .one (.e (.sl 0 0 x1.length))), (3, I i2855), (18, B (!(spec_inRange ((x1.getD i2855.toNat dver).node) 0 11)))]) (st' := ⟨[(0, .one (.e (.sl 0 0 x1.length))), (3, I i2855), (18, B (!(spec_inRange ((x1.getD i2855.toNat dver).node) 0 11)))], [.row .ver x1 false]⟩) (n2 := 35) (by kernel_rfl) trivial rfl ?_
            refine WD_known 18 false rfl rfl hb3286 ?_
            refine WD_takeK [8, 9, 10, 11, 12] [0, 3, 18, 23] [0, 3, 18, 23] (φ := ((0 ≤ i2855 ∧ i2855 < ((x1.length : Nat) : Int)) ∧ (0 ≤ i2855 ∧ i2855 < ((x1.length : Nat) : Int)) ∧ (True ∧ True ∧ True))) (ls' := #[true, true, true, true, true, true, true, true, true, true, true, true, true, false, false, false, false, false, false, false, false, false, false, false, false, false, false, false, false, false, false, false, false, false, false, false, false, false, false, false, false, false, false]) (Ts' := [(0, .one (.e (.sl 0 0 x1.length))), (3, I i2855), (18, B false), (23, I ((x1.getD i2855.toNat dver).value))]) (st' := ⟨[(0, .one (.e (.sl 0 0 x1.length))), (3, I i2855), (18, B false), (23, I ((x1.getD i2855.toNat dver).value))], [.row .ver x1 false]⟩) (n2 := 30) (by kernel_rfl) ⟨hg3287, hg3287, trivial, trivial, trivial⟩ rfl ?_
            refine WD_all [13] (n := 29) (by kernel_rfl) rfl ?_
            refine WM_call [] Try.f47 rfl rfl (by kernel_rfl) rfl rfl (by kernel_rfl) (spec_inRange_ok ((x1.getD i2855.toNat dver).value) (-1000) 1000) (trivial) rfl (And.intro rfl (trivial)) ?_
            refine WD_takeK [14, 15, 16] [0, 3, 27] [0, 3, 27] (φ := True) (ls' := #[true, true, true, true, true, true, true, true, true, true, true, true, true, true, true, true, true, false, false, false, false, false, false, false, false, false, false, false, false, false, false, false, false, false, false, false, false, false, false, false, false, false, false]) (Ts' := [(0, .one (.e (.sl 0 0 x1.length))), (3, I i2855), (27, B (!(spec_inRange ((x1.getD i2855.toNat dver).value) (-1000) 1000)))]) (st' := ⟨[(0, .one (.e (.sl 0 0 x1.length))), (3, I i2855), (27, B (!(spec_inRange ((x1.getD i2855.toNat dver).value) (-1000) 1000)))], [.row .ver x1 false]⟩) (n2 := 26) (by kernel_rfl) trivial rfl ?_
            refine WD_known 27 true rfl rfl hb3288 ?_
            refine WD_takeK [17, 18, 19, 20, 21, 22, 23, 24, 25, 26, 27, 28, 29, 30, 31, 32, 33, 34, 35, 36, 37, 38, 39, 40, 41, 42] [0, 3, 53] [0, 3, 53] (φ := True) (ls' := #[true, true, true, true, true, true, true, true, true, true, true, true, true, true, true, true, true, true, true, true, true, true, true, true, true, true, true, true, true, true, true, true, true, true, true, true, true, true, true, true, true, true, true]) (Ts' := [(0, .one (.e (.sl 0 0 x1.length))), (3, I i2855), (53, B true)]) (st' := ⟨[(0, .one (.e (.sl 0 0 x1.length))), (3, I i2855), (53, B true)], [.row .ver x1 false]⟩) (n2 := 0) (by kernel_rfl) trivial rfl ?_
            exact WD_done [0] [0, 3, 53] (st' := ⟨[(0, .one (.e (.sl 0 0 x1.length))), (3, I i2855), (53, B true)], [.row .ver x1 false]⟩) (by kernel_rfl) (by kernel_rfl) (And.intro rfl rfl)
          · refine guardO_e hv3295 (fun hg3289 hv3295 => ?_)
            refine iteO_e hv3295 (fun hb3290 hv3295 => ?_) (fun hb3290 hv3295 => ?_)
            · cases hv3295
              refine W_draw [] false (by kernel_rfl) (by kernel_rfl) ?_
              refine WD_takeK [0, 1, 2, 3, 4] [0, 3, 15] [0, 3, 15] (φ := ((0 ≤ i2855 ∧ i2855 < ((x1.length : Nat) : Int)) ∧ (0 ≤ i2855 ∧ i2855 < ((x1.length : Nat) : Int)) ∧ (True ∧ True ∧ True))) (ls' := #[true, true, true, true, true, false, false, false, false, false, false, false, false, false, false, false, false, false, false, false, false, false, false, false, false, false, false, false, false, false, false, false, false, false, false, false, false, false, false, false, false, false, false]) (Ts' := [(0, .one (.e (.sl 0 0 x1.length))), (3, I i2855), (15, I ((x1.getD i2855.toNat dver).node))]) (st' := ⟨[(0, .one (.e (.sl 0 0 x1.length))), (3, I i2855), (15, I ((x1.getD i2855.toNat dver).node))], [.row .ver x1 false]⟩) (n2 := 38) (by kernel_rfl) ⟨hg3285, hg3285, trivial, trivial, trivial⟩ rfl ?_
              refine WD_all [5] (n := 37) (by kernel_rfl) rfl ?_
              refine WM_call [] Try.f47 rfl rfl (by kernel_rfl) rfl rfl (by kernel_rfl) (spec_inRange_ok ((x1.getD i2855.toNat dver).node) 0 11) (trivial) rfl (And.intro rfl (trivial)) ?_
              refine WD_takeK [6, 7] [0, 3, 18] [0, 3, 18] (φ := True) (ls' := #[true, true, true, true, true, true, true, true, false, false, false, false, false, false, false, false, false, false, false, false, false, false, false, false, false, false, false, false, false, false, false, false, false, false, false, false, false, false, false, false, false, false, false]) (Ts' := [(0, .one (.e (.sl 0 0 x1.length))), (3, I i2855), (18, B (!(spec_inRange ((x1.getD i2855.toNat dver).node) 0 11)))]) (st' := ⟨[(0, .one (.e (.sl 0 0 x1.length))), (3, I i2855), (18, B (!(spec_inRange ((x1.getD i2855.toNat dver).node) 0 11)))], [.row .ver x1 false]⟩) (n2 := 35) (by kernel_rfl) trivial rfl ?_
              refine WD_known 18 false rfl rfl hb3286 ?_
              refine WD_takeK [8, 9, 10, 11, 12] [0, 3, 18, 23] [0, 3, 18, 23] (φ := ((0 ≤ i2855 ∧ i2855 < ((x1.length : Nat) : Int)) ∧ (0 ≤ i2855 ∧ i2855 < ((x1.length : Nat) : Int)) ∧ (True ∧ True ∧ True))) (ls' := #[true, true, true, true, true, true, true, true, true, true, true, true, true, false, false, false, false, false, false, false, false, false, false, false, false, false, false, false, false, false, false, false, false, false, false, false, false, false, false, false, false, false, false]) (Ts' := [(0, .one (.e (.sl 0 0 x1.length))), (3, I i2855), (18, B false), (23, I ((x1.getD i2855.toNat dver).value))]) (st' := ⟨[(0, .one (.e (.sl 0 0 x1.length))), (3, I i2855), (18, B false), (23, I ((x1.getD i2855.toNat dver).value))], [.row .ver x1 false]⟩) (n2 := 30) (by kernel_rfl) ⟨hg3287, hg3287, trivial, trivial, trivial⟩ rfl ?_
              refine WD_all [13] (n := 29) (by kernel_rfl) rfl ?_
              refine WM_call [] Try.f47 rfl rfl (by kernel_rfl) rfl rfl (by kernel_rfl) (spec_inRange_ok ((x1.getD i2855.toNat dver).value) (-1000) 1000) (trivial) rfl (And.intro rfl (trivial)) ?_
              refine WD_takeK [14, 15, 16] [0, 3, 27] [0, 3, 27] (φ := True) (ls' := #[true, true, true, true, true, true, true, true, true, true, true, true, true, true, true, true, true, false, false, false, false, false, false, false, false, false, false, false, false, false, false, false, false, false, false, false, false, false, false, false, false, false, false]) (Ts' := [(0, .one (.e (.sl 0 0 x1.length))), (3, I i2855), (27, B (!(spec_inRange ((x1.getD i2855.toNat dver).value) (-1000) 1000)))]) (st' := ⟨[(0, .one (.e (.sl 0 0 x1.length))), (3, I i2855), (27, B (!(spec_inRange ((x1.getD i2855.toNat dver).value) (-1000) 1000)))], [.row .ver x1 false]⟩) (n2 := 26) (by kernel_rfl) trivial rfl ?_
              refine WD_known 27 false rfl rfl hb3288 ?_
              refine WD_takeK [17, 18, 19, 20, 21] [0, 3, 27, 32] [0, 3, 27, 32] (φ := ((0 ≤ i2855 ∧ i2855 < ((x1.length : Nat) : Int)) ∧ (0 ≤ i2855 ∧ i2855 < ((x1.length : Nat) : Int)) ∧ (True ∧ True ∧ True))) (ls' := #[true, true, true, true, true, true, true, true, true, true, true, true, true, true, true, true, true, true, true, true, true, true, false, false, false, false, false, false, false, false, false, false, false, false, false, false, false, false, false, false, false, false, false]) (Ts' := [(0, .one (.e (.sl 0 0 x1.length))), (3, I i2855), (27, B false), (32, I ((x1.getD i2855.toNat dver).tm))]) (st' := ⟨[(0, .one (.e (.sl 0 0 x1.length))), (3, I i2855), (27, B false), (32, I ((x1.getD i2855.toNat dver).tm))], [.row .ver x1 false]⟩) (n2 := 21) (by kernel_rfl) ⟨hg3289, hg3289, trivial, trivial, trivial⟩ rfl ?_
              refine WD_all [22] (n := 20) (by kernel_rfl) rfl ?_
              refine WM_call [] Try.f47 rfl rfl (by kernel_rfl) rfl rfl (by kernel_rfl) (spec_inRange_ok ((x1.getD i2855.toNat dver).tm) 0 100) (trivial) rfl (And.intro rfl (trivial)) ?_
              refine WD_takeK [23, 24, 25] [0, 3, 36] [0, 3, 36] (φ := True) (ls' := #[true, true, true, true, true, true, true, true, true, true, true, true, true, true, true, true, true, true, true, true, true, true, true, true, true, true, false, false, false, false, false, false, false, false, false, false, false, false, false, false, false, false, false]) (Ts' := [(0, .one (.e (.sl 0 0 x1.length))), (3, I i2855), (36, B (!(spec_inRange ((x1.getD i2855.toNat dver).tm) 0 100)))]) (st' := ⟨[(0, .one (.e (.sl 0 0 x1.length))), (3, I i2855), (36, B (!(spec_inRange ((x1.getD i2855.toNat dver).tm) 0 100)))], [.row .ver x1 false]⟩) (n2 := 17) (by kernel_rfl) trivial rfl ?_
              refine WD_known 36 true rfl rfl hb3290 ?_
              refine WD_takeK [26, 27, 28, 29, 30, 31, 32, 33, 34, 35, 36, 37, 38, 39, 40, 41, 42] [0, 3, 53] [0, 3, 53] (φ := True) (ls' := #[true, true, true, true, true, true, true, true, true, true, true, true, true, true, true, true, true, true, true, true, true, true, true, true, true, true, true, true, true, true, true, true, true, true, true, true, true, true, true, true, true, true, true]) (Ts' := [(0, .one (.e (.sl 0 0 x1.length))), (3, I i2855), (53, B true)]) (st' := ⟨[(0, .one (.e (.sl 0 0 x1.length))), (3, I i2855), (53, B true)], [.row .ver x1 false]⟩) (n2 := 0) (by kernel_rfl) trivial rfl ?_
              exact WD_done [0] [0, 3, 53] (st' := ⟨[(0, .one (.e (.sl 0 0 x1.length))), (3, I i2855), (53, B true)], [.row .ver x1 false]⟩) (by kernel_rfl) (by kernel_rfl) (And.intro rfl rfl)
            · refine iteO_e hv3295 (fun hb3291 hv3295 => ?_) (fun hb3291 hv3295 => ?_)
              · refine guardO_e hv3295 (fun hg3292 hv3295 => ?_)
                refine guardO_e hv3295 (fun hg3293 hv3295 => ?_)
                cases hv3295
                refine W_draw [] false (by kernel_rfl) (by kernel_rfl) ?_
                refine WD_takeK [0, 1, 2, 3, 4] [0, 3, 15] [0, 3, 15] (φ := ((0 ≤ i2855 ∧ i2855 < ((x1.length : Nat) : Int)) ∧ (0 ≤ i2855 ∧ i2855 < ((x1.length : Nat) : Int)) ∧ (True ∧ True ∧ True))) (ls' := #[true, true, true, true, true, false, false, false, false, false, false, false, false, false, false, false, false, false, false, false, false, false, false, false, false, false, false, false, false, false, false, false, false, false, false, false, false, false, false, false, false, false, false]) (Ts' := [(0, .one (.e (.sl 0 0 x1.length))), (3, I i2855), (15, I ((x1.getD i2855.toNat dver).node))]) (st' := ⟨[(0, .one (.e (.sl 0 0 x1.length))), (3, I i2855), (15, I ((x1.getD i2855.toNat dver).node))], [.row .ver x1 false]⟩) (n2 := 38) (by kernel_rfl) ⟨hg3285, hg3285, trivial, trivial, trivial⟩ rfl ?_
                refine WD_all [5] (n := 37) (by kernel_rfl) rfl ?_
                refine WM_call [] Try.f47 rfl rfl (by kernel_rfl) rfl rfl (by kernel_rfl) (spec_inRange_ok ((x1.getD i2855.toNat dver).node) 0 11) (trivial) rfl (And.intro rfl (trivial)) ?_
                refine WD_takeK [6, 7] [0, 3, 18] [0, 3, 18] (φ := True) (ls' := #[true, true, true, true, true, true, true, true, false, false, false, false, false, false, false, false, false, false, false, false, false, false, false, false, false, false, false, false, false, false, false, false, false, false, false, false, false, false, false, false, false, false, false]) (Ts' := [(0, .one (.e (.sl 0 0 x1.length))), (3, I i2855), (18, B (!(spec_inRange ((x1.getD i2855.toNat dver).node) 0 11)))]) (st' := ⟨[(0, .one (.e (.sl 0 0 x1.length))), (3, I i2855), (18, B (!(spec_inRange ((x1.getD i2855.toNat dver).node) 0 11)))], [.row .ver x1 false]⟩) (n2 := 35) (by kernel_rfl) trivial rfl ?_
                refine WD_known 18 false rfl rfl hb3286 ?_
                refine WD_takeK [8, 9, 10, 11, 12] [0, 3, 18, 23] [0, 3, 18, 23] (φ := ((0 ≤ i2855 ∧ i2855 < ((x1.length : Nat) : Int)) ∧ (0 ≤ i2855 ∧ i2855 < ((x1.length : Nat) : Int)) ∧ (True ∧ True ∧ True))) (ls' := #[true, true, true, true, true, true, true, true, true, true, true, true, true, false, false, false, false, false, false, false, false, false, false, false, false, false, false, false, false, false, false, false, false, false, false, false, false, false, false, false, false, false, false]) (Ts' := [(0, .one (.e (.sl 0 0 x1.length))), (3, I i2855), (18, B false), (23, I ((x1.getD i2855.toNat dver).value))]) (st' := ⟨[(0, .one (.e (.sl 0 0 x1.length))), (3, I i2855), (18, B false), (23, I ((x1.getD i2855.toNat dver).value))], [.row .ver x1 false]⟩) (n2 := 30) (by kernel_rfl) ⟨hg3287, hg3287, trivial, trivial, trivial⟩ rfl ?_
                refine WD_all [13] (n := 29) (by kernel_rfl) rfl ?_
                refine WM_call [] Try.f47 rfl rfl (by kernel_rfl) rfl rfl (by kernel_rfl) (spec_inRange_ok ((x1.getD i2855.toNat dver).value) (-1000) 1000) (trivial) rfl (And.intro rfl (trivial)) ?_
                refine WD_takeK [14, 15, 16] [0, 3, 27] [0, 3, 27] (φ := True) (ls' := #[true, true, true, true, true, true, true, true, true, true, true, true, true, true, true, true, true, false, false, false, false, false, false, false, false, false, false, false, false, false, false, false, false, false, false, false, false, false, false, false, false, false, false]) (Ts' := [(0, .one (.e (.sl 0 0 x1.length))), (3, I i2855), (27, B (!(spec_inRange ((x1.getD i2855.toNat dver).value) (-1000) 1000)))]) (st' := ⟨[(0, .one (.e (.sl 0 0 x1.length))), (3, I i2855), (27, B (!(spec_inRange ((x1.getD i2855.toNat dver).value) (-1000) 1000)))], [.row .ver x1 false]⟩) (n2 := 26) (by kernel_rfl) trivial rfl ?_
                refine WD_known 27 false rfl rfl hb3288 ?_
                refine WD_takeK [17, 18, 19, 20, 21] [0, 3, 27, 32] [0, 3, 27, 32] (φ := ((0 ≤ i2855 ∧ i2855 < ((x1.length : Nat) : Int)) ∧ (0 ≤ i2855 ∧ i2855 < ((x1.length : Nat) : Int)) ∧ (True ∧ True ∧ True))) (ls' := #[true, true, true, true, true, true, true, true, true, true, true, true, true, true, true, true, true, true, true, true, true, true, false, false, false, false, false, false, false, false, false, false, false, false, false, false, false, false, false, false, false, false, false]) (Ts' := [(0, .one (.e (.sl 0 0 x1.length))), (3, I i2855), (27, B false), (32, I ((x1.getD i2855.toNat dver).tm))]) (st' := ⟨[(0, .one (.e (.sl 0 0 x1.length))), (3, I i2855), (27, B false), (32, I ((x1.getD i2855.toNat dver).tm))], [.row .ver x1 false]⟩) (n2 := 21) (by kernel_rfl) ⟨hg3289, hg3289, trivial, trivial, trivial⟩ rfl ?_
                refine WD_all [22] (n := 20) (by kernel_rfl) rfl ?_
                refine WM_call [] Try.f47 rfl rfl (by kernel_rfl) rfl rfl (by kernel_rfl) (spec_inRange_ok ((x1.getD i2855.toNat dver).tm) 0 100) (trivial) rfl (And.intro rfl (trivial)) ?_
                refine WD_takeK [23, 24, 25] [0, 3, 36] [0, 3, 36] (φ := True) (ls' := #[true, true, true, true, true, true, true, true, true, true, true, true, true, true, true, true, true, true, true, true, true, true, true, true, true, true, false, false, false, false, false, false, false, false, false, false, false, false, false, false, false, false, false]) (Ts' := [(0, .one (.e (.sl 0 0 x1.length))), (3, I i2855), (36, B (!(spec_inRange ((x1.getD i2855.toNat dver).tm) 0 100)))]) (st' := ⟨[(0, .one (.e (.sl 0 0 x1.length))), (3, I i2855), (36, B (!(spec_inRange ((x1.getD i2855.toNat dver).tm) 0 100)))], [.row .ver x1 false]⟩) (n2 := 17) (by kernel_rfl) trivial rfl ?_
                refine WD_known 36 false rfl rfl hb3290 ?_
                refine WD_takeK [26, 27, 28] [0, 3, 36, 39] [0, 3, 36, 39] (φ := (True ∧ True ∧ True)) (ls' := #[true, true, true, true, true, true, true, true, true, true, true, true, true, true, true, true, true, true, true, true, true, true, true, true, true, true, true, true, true, false, false, false, false, false, false, false, false, false, false, false, false, false, false]) (Ts' := [(0, .one (.e (.sl 0 0 x1.length))), (3, I i2855), (36, B false), (39, B (decide (0 < i2855)))]) (st' := ⟨[(0, .one (.e (.sl 0 0 x1.length))), (3, I i2855), (36, B false), (39, B (decide (0 < i2855)))], [.row .ver x1 false]⟩) (n2 := 14) (by kernel_rfl) ⟨trivial, trivial, trivial⟩ rfl ?_
                refine WD_known 39 true rfl rfl hb3291 ?_
                refine WD_takeK [29, 30, 31, 32, 33, 34, 35, 36, 37, 38, 39, 40, 41, 42] [0, 3, 53] [0, 3, 53] (φ := ((0 ≤ i2855 ∧ i2855 < ((x1.length : Nat) : Int)) ∧ (0 ≤ i2855 ∧ i2855 < ((x1.length : Nat) : Int)) ∧ (True ∧ True ∧ (True ∧ True ∧ ((0 ≤ (w64 (i2855 - 1)) ∧ (w64 (i2855 - 1)) < ((x1.length : Nat) : Int)) ∧ (0 ≤ (w64 (i2855 - 1)) ∧ (w64 (i2855 - 1)) < ((x1.length : Nat) : Int)) ∧ (True ∧ True ∧ (True ∧ True ∧ True))))))) (ls' := #[true, true, true, true, true, true, true, true, true, true, true, true, true, true, true, true, true, true, true, true, true, true, true, true, true, true, true, true, true, true, true, true, true, true, true, true, true, true, true, true, true, true, true]) (Ts' := [(0, .one (.e (.sl 0 0 x1.length))), (3, I i2855), (53, B (decide (((x1.getD i2855.toNat dver).tm) < ((x1.getD ((w64 (i2855 - 1)).toNat) dver).tm))))]) (st' := ⟨[(0, .one (.e (.sl 0 0 x1.length))), (3, I i2855), (53, B (decide (((x1.getD i2855.toNat dver).tm) < ((x1.getD ((w64 (i2855 - 1)).toNat) dver).tm))))], [.row .ver x1 false]⟩) (n2 := 0) (by kernel_rfl) ⟨hg3292, hg3292, trivial, trivial, trivial, trivial, hg3293, hg3293, trivial, trivial, trivial, trivial, trivial⟩ rfl ?_
                exact WD_done [0] [0, 3, 53] (st' := ⟨[(0, .one (.e (.sl 0 0 x1.length))), (3, I i2855), (53, B (decide (((x1.getD i2855.toNat dver).tm) < ((x1.getD ((w64 (i2855 - 1)).toNat) dver).tm))))], [.row .ver x1 false]⟩) (by kernel_rfl) (by kernel_rfl) (And.intro rfl rfl)
              · cases hv3295
                refine W_draw [] false (by kernel_rfl) (by kernel_rfl) ?_
                refine WD_takeK [0, 1, 2, 3, 4] [0, 3, 15] [0, 3, 15] (φ := ((0 ≤ i2855 ∧ i2855 < ((x1.length : Nat) : Int)) ∧ (0 ≤ i2855 ∧ i2855 < ((x1.length : Nat) : Int)) ∧ (True ∧ True ∧ True))) (ls' := #[true, true, true, true, true, false, false, false, false, false, false, false, false, false, false, false, false, false, false, false, false, false, false, false, false, false, false, false, false, false, false, false, false, false, false, false, false, false, false, false, false, false, false]) (Ts' := [(0, .one (.e (.sl 0 0 x1.length))), (3, I i2855), (15, I ((x1.getD i2855.toNat dver).node))]) (st' := ⟨[(0, .one (.e (.sl 0 0 x1.length))), (3, I i2855), (15, I ((x1.getD i2855.toNat dver).node))], [.row .ver x1 false]⟩) (n2 := 38) (by kernel_rfl) ⟨hg3285, hg3285, trivial, trivial, trivial⟩ rfl ?_
                refine WD_all [5] (n := 37) (by kernel_rfl) rfl ?_
                refine WM_call [] Try.f47 rfl rfl (by kernel_rfl) rfl rfl (by kernel_rfl) (spec_inRange_ok ((x1.getD i2855.toNat dver).node) 0 11) (trivial) rfl (And.intro rfl (trivial)) ?_
                refine WD_takeK [6, 7] [0, 3, 18] [0, 3, 18] (φ := True) (ls' := #[true, true, true, true, true, true, true, true, false, false, false, false, false, false, false, false, false, false, false, false, false, false, false, false, false, false, false, false, false, false, false, false, false, false, false, false, false, false, false, false, false, false, false]) (Ts' := [(0, .one (.e (.sl 0 0 x1.length))), (3, I i2855), (18, B (!(spec_inRange ((x1.getD i2855.toNat dver).node) 0 11)))]) (st' := ⟨[(0, .one (.e (.sl 0 0 x1.length))), (3, I i2855), (18, B (!(spec_inRange ((x1.getD i2855.toNat dver).node) 0 11)))], [.row .ver x1 false]⟩) (n2 := 35) (by kernel_rfl) trivial rfl ?_
                refine WD_known 18 false rfl rfl hb3286 ?_
                refine WD_takeK [8, 9, 10, 11, 12] [0, 3, 18, 23] [0, 3, 18, 23] (φ := ((0 ≤ i2855 ∧ i2855 < ((x1.length : Nat) : Int)) ∧ (0 ≤ i2855 ∧ i2855 < ((x1.length : Nat) : Int)) ∧ (True ∧ True ∧ True))) (ls' := #[true, true, true, true, true, true, true, true, true, true, true, true, true, false, false, false, false, false, false, false, false, false, false, false, false, false, false, false, false, false, false, false, false, false, false, false, false, false, false, false, false, false, false]) (Ts' := [(0, .one (.e (.sl 0 0 x1.length))), (3, I i2855), (18, B false), (23, I ((x1.getD i2855.toNat dver).value))]) (st' := ⟨[(0, .one (.e (.sl 0 0 x1.length))), (3, I i2855), (18, B false), (23, I ((x1.getD i2855.toNat dver).value))], [.row .ver x1 false]⟩) (n2 := 30) (by kernel_rfl) ⟨hg3287, hg3287, trivial, trivial, trivial⟩ rfl ?_
                refine WD_all [13] (n := 29) (by kernel_rfl) rfl ?_
                refine WM_call [] Try.f47 rfl rfl (by kernel_rfl) rfl rfl (by kernel_rfl) (spec_inRange_ok ((x1.getD i2855.toNat dver).value) (-1000) 1000) (trivial) rfl (And.intro rfl (trivial)) ?_
                refine WD_takeK [14, 15, 16] [0, 3, 27] [0, 3, 27] (φ := True) (ls' := #[true, true, true, true, true, true, true, true, true, true, true, true, true, true, true, true, true, false, false, false, false, false, false, false, false, false, false, false, false, false, false, false, false, false, false, false, false, false, false, false, false, false, false]) (Ts' := [(0, .one (.e (.sl 0 0 x1.length))), (3, I i2855), (27, B (!(spec_inRange ((x1.getD i2855.toNat dver).value) (-1000) 1000)))]) (st' := ⟨[(0, .one (.e (.sl 0 0 x1.length))), (3, I i2855), (27, B (!(spec_inRange ((x1.getD i2855.toNat dver).value) (-1000) 1000)))], [.row .ver x1 false]⟩) (n2 := 26) (by kernel_rfl) trivial rfl ?_
                refine WD_known 27 false rfl rfl hb3288 ?_
                refine WD_takeK [17, 18, 19, 20, 21] [0, 3, 27, 32] [0, 3, 27, 32] (φ := ((0 ≤ i2855 ∧ i2855 < ((x1.length : Nat) : Int)) ∧ (0 ≤ i2855 ∧ i2855 < ((x1.length : Nat) : Int)) ∧ (True ∧ True ∧ True))) (ls' := #[true, true, true, true, true, true, true, true, true, true, true, true, true, true, true, true, true, true, true, true, true, true, false, false, false, false, false, false, false, false, false, false, false, false, false, false, false, false, false, false, false, false, false]) (Ts' := [(0, .one (.e (.sl 0 0 x1.length))), (3, I i2855), (27, B false), (32, I ((x1.getD i2855.toNat dver).tm))]) (st' := ⟨[(0, .one (.e (.sl 0 0 x1.length))), (3, I i2855), (27, B false), (32, I ((x1.getD i2855.toNat dver).tm))], [.row .ver x1 false]⟩) (n2 := 21) (by kernel_rfl) ⟨hg3289, hg3289, trivial, trivial, trivial⟩ rfl ?_
                refine WD_all [22] (n := 20) (by kernel_rfl) rfl ?_
                refine WM_call [] Try.f47 rfl rfl (by kernel_rfl) rfl rfl (by kernel_rfl) (spec_inRange_ok ((x1.getD i2855.toNat dver).tm) 0 100) (trivial) rfl (And.intro rfl (trivial)) ?_
                refine WD_takeK [23, 24, 25] [0, 3, 36] [0, 3, 36] (φ := True) (ls' := #[true, true, true, true, true, true, true, true, true, true, true, true, true, true, true, true, true, true, true, true, true, true, true, true, true, true, false, false, false, false, false, false, false, false, false, false, false, false, false, false, false, false, false]) (Ts' := [(0, .one (.e (.sl 0 0 x1.length))), (3, I i2855), (36, B (!(spec_inRange ((x1.getD i2855.toNat dver).tm) 0 100)))]) (st' := ⟨[(0, .one (.e (.sl 0 0 x1.length))), (3, I i2855), (36, B (!(spec_inRange ((x1.getD i2855.toNat dver).tm) 0 100)))], [.row .ver x1 false]⟩) (n2 := 17) (by kernel_rfl) trivial rfl ?_
                refine WD_known 36 false rfl rfl hb3290 ?_
                refine WD_takeK [26, 27, 28] [0, 3, 36, 39] [0, 3, 36, 39] (φ := (True ∧ True ∧ True)) (ls' := #[true, true, true, true, true, true, true, true, true, true, true, true, true, true, true, true, true, true, true, true, true, true, true, true, true, true, true, true, true, false, false, false, false, false, false, false, false, false, false, false, false, false, false]) (Ts' := [(0, .one (.e (.sl 0 0 x1.length))), (3, I i2855), (36, B false), (39, B (decide (0 < i2855)))]) (st' := ⟨[(0, .one (.e (.sl 0 0 x1.length))), (3, I i2855), (36, B false), (39, B (decide (0 < i2855)))], [.row .ver x1 false]⟩) (n2 := 14) (by kernel_rfl) ⟨trivial, trivial, trivial⟩ rfl ?_
                refine WD_known 39 false rfl rfl hb3291 ?_
                refine WD_takeK [29, 30, 31, 32, 33, 34, 35, 36, 37, 38, 39, 40, 41, 42] [0, 3, 53] [0, 3, 53] (φ := True) (ls' := #[true, true, true, true, true, true, true, true, true, true, true, true, true, true, true, true, true, true, true, true, true, true, true, true, true, true, true, true, true, true, true, true, true, true, true, true, true, true, true, true, true, true, true]) (Ts' := [(0, .one (.e (.sl 0 0 x1.length))), (3, I i2855), (53, B false)]) (st' := ⟨[(0, .one (.e (.sl 0 0 x1.length))), (3, I i2855), (53, B false)], [.row .ver x1 false]⟩) (n2 := 0) (by kernel_rfl) trivial rfl ?_
                exact WD_done [0] [0, 3, 53] (st' := ⟨[(0, .one (.e (.sl 0 0 x1.length))), (3, I i2855), (53, B false)], [.row .ver x1 false]⟩) (by kernel_rfl) (by kernel_rfl) (And.intro rfl rfl)
      · rintro _ _ ⟨rfl, rfl⟩
        refine thenS_n ?_
        refine iteO_e h (fun hb3297 h => W_true rfl hb3297 ?_) (fun hb3297 h => W_false rfl hb3297 ?_)
        · refine W_seq ?_
          refine W_region ?_
          refine WO_step 1 [0] [2] True ⟨[(2, B false)], [.row .ver x1 false]⟩ (by kernel_rfl) trivial ?_
          refine WO_nil rfl ?_
          refine thenS_n ?_
          refine W_ret ?_
          refine thenS_r ?_
          refine blockS_r ?_
          refine thenS_r ?_
          refine thenS_r ?_
          cases h
          exact And.intro rfl rfl
        · refine W_sub [0] [0, 3] (st' := ⟨[(0, .one (.e (.sl 0 0 x1.length))), (3, I i2855)], [.row .ver x1 false]⟩) (by kernel_rfl) ?_
          refine W_skip ?_
          refine thenS_n ?_
          refine W_seq ?_
          refine W_region ?_
          refine WO_step 1 [0] [0, 3, 4] True ⟨[(0, .one (.e (.sl 0 0 x1.length))), (3, I i2855), (4, I 0)], [.row .ver x1 false]⟩ (by kernel_rfl) trivial ?_
          refine WO_nil rfl ?_
          refine thenS_n ?_
          refine W_block ?_
          refine W_loop ?_
          refine bindO_e h (fun v3425 hv3425 h => ?_)
          refine WL_cut (spec_validVersions_L52_ok w X θ x1 i2855 v3425 n 0 hv3425) ?_
          rcases v3425 with _ | _
          · rintro _ _ ⟨rfl, rfl⟩
            refine blockS_r ?_
            refine blockS_r ?_
            refine thenS_r ?_
            refine thenS_r ?_
            cases h
            exact And.intro rfl rfl
          · rintro _ _ ⟨rfl, rfl⟩
            refine blockS_y ?_
            refine blockS_n ?_
            refine thenS_n ?_
            refine W_region ?_
            refine WO_step 3 [0] [0, 3] (True ∧ True) ⟨[(0, .one (.e (.sl 0 0 x1.length))), (3, I (w64 (i2855 + 1)))], [.row .ver x1 false]⟩ (by kernel_rfl) ⟨trivial, trivial⟩ ?_
            refine WO_nil rfl ?_
            refine thenS_n ?_
            exact ih _ h
    · refine W_sub [0] [0] (st' := ⟨[(0, .one (.e (.sl 0 0 x1.length)))], [.row .ver x1 false]⟩) (by kernel_rfl) ?_
      refine W_exit ?_
      refine thenS_e ?_
      refine thenS_e ?_
      cases h
      exact And.intro rfl rfl

def spec_validVersions (n : Nat) (x1 : List Ver) : Option (Bool) :=
 bindO (spec_validVersions_L48 x1 n 0) fun v3426 =>
 match v3426 with
 | (.inl _) => (some false)
 | (.inr _) => (some (decide (((x1.length : Nat) : Int) ≤ 16)))


theorem spec_validVersions_ok (n : Nat) (x1 : List Ver) (b1714 : Bool) (h : spec_validVersions n x1 = some b1714) : FOk EE 36 [.one (.e (.sl 0 0 x1.length))] [.row .ver x1 false] (B b1714) [.row .ver x1 false] := by
  unfold spec_validVersions at h
  refine FOk_of_W 86 1 Try.func36 rfl rfl (Nat.le_of_ble_eq_true rfl) rfl (fun w X θ => ?_)
  refine W_seq ?_
  refine W_region ?_
  refine WO_step 1 [0] [0] True ⟨[(0, .one (.e (.sl 0 0 x1.length)))], [.row .ver x1 false]⟩ (by kernel_rfl) trivial ?_
  refine WO_nil rfl ?_
  refine thenS_n ?_
  refine W_seq ?_
  refine W_seq ?_
  refine W_region ?_
  refine WO_step 1 [0] [0, 3] True ⟨[(0, .one (.e (.sl 0 0 x1.length))), (3, I 0)], [.row .ver x1 false]⟩ (by kernel_rfl) trivial ?_
  refine WO_nil rfl ?_
  refine thenS_n ?_
  refine W_block ?_
  refine W_loop ?_
  refine bindO_e h (fun v3426 hv3426 h => ?_)
  refine WL_cut (spec_validVersions_L48_ok w X θ x1 v3426 n 0 hv3426) ?_
  rcases v3426 with _ | _
  · rintro _ _ ⟨rfl, rfl⟩
    refine blockS_r ?_
    refine thenS_r ?_
    cases h
    exact ⟨[0], by kernel_rfl⟩
  · rintro _ _ ⟨rfl, rfl⟩
    refine blockS_y ?_
    refine thenS_n ?_
    refine W_seq ?_
    refine W_region ?_
    refine WO_step 4 [0] [2] (True ∧ (True ∧ True)) ⟨[(2, B (decide (((x1.length : Nat) : Int) ≤ 16)))], [.row .ver x1 false]⟩ (by kernel_rfl) ⟨trivial, trivial, trivial⟩ ?_
    refine WO_nil rfl ?_
    refine thenS_n ?_
    refine W_ret ?_
    cases h
    exact ⟨[0], by kernel_rfl⟩

/- spec.ValidVersions -/
def spec_ValidVersions (n : Nat) (x1 : List Ver) : Option (Bool) :=
 bindO (spec_validVersions n x1) fun b5 =>
 some b5

theorem spec_ValidVersions_ok (n : Nat) (x1 : List Ver) (b4 : Bool) (h : spec_ValidVersions n x1 = some b4) : FOk EE 18 [.one (.e (.sl 0 0 x1.length))] [.row .ver x1 false] (B b4) [.row .ver x1 false] := by
  unfold spec_ValidVersions at h
  refine FOk_of_W 5 1 Try.func18 rfl rfl (Nat.le_of_ble_eq_true rfl) rfl (fun w X θ => ?_)
  refine W_seq ?_
  refine W_region ?_
  refine WO_step 1 [0] [0] True ⟨[(0, .one (.e (.sl 0 0 x1.length)))], [.row .ver x1 false]⟩ (by kernel_rfl) trivial ?_
  refine WO_nil rfl ?_
  refine thenS_n ?_
  refine W_seq ?_
  refine W_region ?_
  refine WO_step 1 [0] [3] True ⟨[(3, .one (.e (.sl 0 0 x1.length)))], [.row .ver x1 false]⟩ (by kernel_rfl) trivial ?_
  refine bindO_e h (fun b5 hc6 h => ?_)
  refine WO_call [.ro 0] Try.f36 rfl rfl rfl (by kernel_rfl) rfl rfl (by kernel_rfl) (spec_validVersions_ok n x1 b5 hc6) (And.intro (And.intro rfl rfl) (trivial)) rfl ?_
  refine WO_step 1 [0] [2] True ⟨[(2, B b5)], [.row .ver x1 false]⟩ (by kernel_rfl) trivial ?_
  refine WO_nil rfl ?_
  refine thenS_n ?_
  refine W_ret ?_
  cases h
  exact ⟨[0], by kernel_rfl⟩

/- impl.within -/
def impl_within (i1 : Int) (i2 : Int) (i3 : Int) : Bool :=
((decide (i2 ≤ i1)) && (decide (i1 ≤ i3)))

theorem impl_within_ok (i1 : Int) (i2 : Int) (i3 : Int) : FOk EE 37 [I i1, I i2, I i3] [] (B (impl_within i1 i2 i3)) [] := by
  refine FOk_of_W 15 0 Try.func37 rfl rfl (Nat.le_of_ble_eq_true rfl) rfl (fun w X θ => ?_)
  refine W_seq ?_
  refine W_region ?_
  refine WO_step 1 [] [0, 1, 2] True ⟨[(0, I i1), (1, I i2), (2, I i3)], []⟩ (by kernel_rfl) trivial ?_
  refine WO_nil rfl ?_
  refine thenS_n ?_
  refine W_seq ?_
  refine W_region ?_
  refine WO_step 4 [] [0, 2, 10] (True ∧ True) ⟨[(0, I i1), (2, I i3), (10, B (decide (i2 ≤ i1)))], []⟩ (by kernel_rfl) ⟨trivial, trivial⟩ ?_
  refine WO_thru ⟨[(6, B ((decide (i2 ≤ i1)) && (decide (i1 ≤ i3))))], []⟩ ?_ ?_
  · refine WO_if 10 rfl (fun hb10 => ?_) (fun hb10 => ?_)
    · refine WO_step 5 [] [6] (True ∧ True) ⟨[(6, B (decide (i1 ≤ i3)))], []⟩ (by kernel_rfl) ⟨trivial, trivial⟩ ?_
      exact WO_nil rfl ⟨rfl, by first | rfl | (rw [hb10]; first | done | rfl)⟩
    · refine WO_step 5 [] [6] True ⟨[(6, B false)], []⟩ (by kernel_rfl) trivial ?_
      exact WO_nil rfl ⟨rfl, by first | rfl | (rw [hb10]; first | done | rfl)⟩
  · refine thenS_n ?_
    refine W_ret ?_
    exact ⟨[], by kernel_rfl⟩

/- impl.ValidVersions -/
def impl_ValidVersions_L52 (x1 : List Ver) (i2607 : Int) : Nat → Int → Option ((Unit) ⊕ (Unit))
| 0, _ => none
| n + 1, i3094 =>
 iteO (decide (i3094 < ((i2607.toNat : Nat) : Int)))
 (guardO (0 ≤ i3094 ∧ i3094 < ((i2607.toNat : Nat) : Int)) <|
 iteO ((decide (((x1.getD i2607.toNat dver).tm) < ((x1.getD i3094.toNat dver).tm))) || ((decide (((x1.getD i3094.toNat dver).tm) = ((x1.getD i2607.toNat dver).tm))) && (decide (((x1.getD i3094.toNat dver).node) = ((x1.getD i2607.toNat dver).node)))))
 (some (.inl ()))
 (impl_ValidVersions_L52 x1 i2607 n (w64 (i3094 + 1))))
 (some (.inr ()))

theorem impl_ValidVersions_L52_ok (w : World) (X : Nat → Prop) (θ : List Loc) (x1 : List Ver) (i2607 : Int) (v : (Unit) ⊕ (Unit)) : ∀ (n : Nat) (i3094 : Int), impl_ValidVersions_L52 x1 i2607 n i3094 = some v → WL EE ⟨w, X, θ, 62, 1⟩ (subC [1, 1, 0, 1, 4, 4, 1, 1, 0, 4, 1, 1, 1, 4, 4] (bodyC Try.f20)) (fun (e : Exit) (s : St) => (match v with | (.inl _) => e = .ret ∧ s = ⟨[(2, B false)], [.row .ver x1 false]⟩ | (.inr _) => e = .exit 2 ∧ s = ⟨[(0, .one (.e (.sl 0 0 x1.length))), (10, .one (.e (.sl 0 0 x1.length))), (11, I ((x1.length : Nat) : Int)), (12, I i2607)], [.row .ver x1 false]⟩ : Prop)) ⟨[(0, .one (.e (.sl 0 0 x1.length))), (4, .one (.e (.p 1 0))), (10, .one (.e (.sl 0 0 x1.length))), (11, I ((x1.length : Nat) : Int)), (12, I i2607), (35, .one (.e (.sl 0 0 i2607.toNat))), (36, I ((i2607.toNat : Nat) : Int)), (37, I i3094)], [.row .ver x1 false, .cells [cI ((x1.getD i2607.toNat dver).node), cI ((x1.getD i2607.toNat dver).value), cI ((x1.getD i2607.toNat dver).tm)]]⟩ := by
  intro n
  induction n with
  | zero => intro _ h; exact none_e h
  | succ n ih =>
    intro i3094 h
    rw [impl_ValidVersions_L52] at h
    refine WL_round ?_
    refine W_seq ?_
    refine W_region ?_
    refine WO_step 1 [0, 1] [0, 4, 10, 11, 12, 35, 36, 37, 38] (True ∧ True) ⟨[(0, .one (.e (.sl 0 0 x1.length))), (4, .one (.e (.p 1 0))), (10, .one (.e (.sl 0 0 x1.length))), (11, I ((x1.length : Nat) : Int)), (12, I i2607), (35, .one (.e (.sl 0 0 i2607.toNat))), (36, I ((i2607.toNat : Nat) : Int)), (37, I i3094), (38, B (decide (i3094 < ((i2607.toNat : Nat) : Int))))], [.row .ver x1 false, .cells [cI ((x1.getD i2607.toNat dver).node), cI ((x1.getD i2607.toNat dver).value), cI ((x1.getD i2607.toNat dver).tm)]]⟩ (by kernel_rfl) ⟨trivial, trivial⟩ ?_
    refine WO_nil rfl ?_
    refine thenS_n ?_
    refine W_seq ?_
    refine iteO_e h (fun hb3116 h => W_true rfl hb3116 ?_) (fun hb3116 h => W_false rfl hb3116 ?_)
    · refine W_sub [0, 1] [0, 4, 10, 11, 12, 35, 36, 37] (st' := ⟨[(0, .one (.e (.sl 0 0 x1.length))), (4, .one (.e (.p 1 0))), (10, .one (.e (.sl 0 0 x1.length))), (11, I ((x1.length : Nat) : Int)), (12, I i2607), (35, .one (.e (.sl 0 0 i2607.toNat))), (36, I ((i2607.toNat : Nat) : Int)), (37, I i3094)], [.row .ver x1 false, .cells [cI ((x1.getD i2607.toNat dver).node), cI ((x1.getD i2607.toNat dver).value), cI ((x1.getD i2607.toNat dver).tm)]]⟩) (by kernel_rfl) ?_
      refine W_skip ?_
      refine thenS_n ?_
      refine W_seq ?_
      refine W_block ?_
      refine W_seq ?_
      refine W_region ?_
      refine guardO_e h (fun hg3125 h => ?_)
      refine WO_step 4 [0, 1, 2] [0, 4, 6, 10, 11, 12, 35, 36, 37] ((0 ≤ i3094 ∧ i3094 < ((i2607.toNat : Nat) : Int)) ∧ (True ∧ (True ∧ (True ∧ True)))) ⟨[(0, .one (.e (.sl 0 0 x1.length))), (4, .one (.e (.p 1 0))), (6, .one (.e (.p 2 0))), (10, .one (.e (.sl 0 0 x1.length))), (11, I ((x1.length : Nat) : Int)), (12, I i2607), (35, .one (.e (.sl 0 0 i2607.toNat))), (36, I ((i2607.toNat : Nat) : Int)), (37, I i3094)], [.row .ver x1 false, .cells [cI ((x1.getD i2607.toNat dver).node), cI ((x1.getD i2607.toNat dver).value), cI ((x1.getD i2607.toNat dver).tm)], .cells [cI ((x1.getD i3094.toNat dver).node), cI ((x1.getD i3094.toNat dver).value), cI ((x1.getD i3094.toNat dver).tm)]]⟩ (by kernel_rfl) ⟨hg3125, trivial, trivial, trivial, trivial⟩ ?_
      refine WO_nil rfl ?_
      refine thenS_n ?_
      refine W_seq ?_
      refine W_region ?_
      refine WO_step 6 [0, 1, 2] [0, 4, 6, 10, 11, 12, 35, 36, 37, 46] (True ∧ (True ∧ (True ∧ True))) ⟨[(0, .one (.e (.sl 0 0 x1.length))), (4, .one (.e (.p 1 0))), (6, .one (.e (.p 2 0))), (10, .one (.e (.sl 0 0 x1.length))), (11, I ((x1.length : Nat) : Int)), (12, I i2607), (35, .one (.e (.sl 0 0 i2607.toNat))), (36, I ((i2607.toNat : Nat) : Int)), (37, I i3094), (46, B (decide (((x1.getD i2607.toNat dver).tm) < ((x1.getD i3094.toNat dver).tm))))], [.row .ver x1 false, .cells [cI ((x1.getD i2607.toNat dver).node), cI ((x1.getD i2607.toNat dver).value), cI ((x1.getD i2607.toNat dver).tm)], .cells [cI ((x1.getD i3094.toNat dver).node), cI ((x1.getD i3094.toNat dver).value), cI ((x1.getD i3094.toNat dver).tm)]]⟩ (by kernel_rfl) ⟨trivial, trivial, trivial, trivial⟩ ?_
      refine WO_thru ⟨[(0, .one (.e (.sl 0 0 x1.length))), (4, .one (.e (.p 1 0))), (10, .one (.e (.sl 0 0 x1.length))), (11, I ((x1.length : Nat) : Int)), (12, I i2607), (35, .one (.e (.sl 0 0 i2607.toNat))), (36, I ((i2607.toNat : Nat) : Int)), (37, I i3094), (59, B ((decide (((x1.getD i2607.toNat dver).tm) < ((x1.getD i3094.toNat dver).tm))) || ((decide (((x1.getD i3094.toNat dver).tm) = ((x1.getD i2607.toNat dver).tm))) && (decide (((x1.getD i3094.toNat dver).node) = ((x1.getD i2607.toNat dver).node))))))], [.row .ver x1 false, .cells [cI ((x1.getD i2607.toNat dver).node), cI ((x1.getD i2607.toNat dver).value), cI ((x1.getD i2607.toNat dver).tm)]]⟩ ?_ ?_
      · refine WO_if 46 rfl (fun hb3129 => ?_) (fun hb3129 => ?_)
        · refine WO_step 13 [0, 1] [0, 4, 10, 11, 12, 35, 36, 37, 59] True ⟨[(0, .one (.e (.sl 0 0 x1.length))), (4, .one (.e (.p 1 0))), (10, .one (.e (.sl 0 0 x1.length))), (11, I ((x1.length : Nat) : Int)), (12, I i2607), (35, .one (.e (.sl 0 0 i2607.toNat))), (36, I ((i2607.toNat : Nat) : Int)), (37, I i3094), (59, B true)], [.row .ver x1 false, .cells [cI ((x1.getD i2607.toNat dver).node), cI ((x1.getD i2607.toNat dver).value), cI ((x1.getD i2607.toNat dver).tm)]]⟩ (by kernel_rfl) trivial ?_
          exact WO_nil rfl ⟨rfl, by first | rfl | (rw [hb3129]; first | done | rfl)⟩
        · refine WO_step 6 [0, 1, 2] [0, 4, 6, 10, 11, 12, 35, 36, 37, 46, 52] (True ∧ (True ∧ (True ∧ True))) ⟨[(0, .one (.e (.sl 0 0 x1.length))), (4, .one (.e (.p 1 0))), (6, .one (.e (.p 2 0))), (10, .one (.e (.sl 0 0 x1.length))), (11, I ((x1.length : Nat) : Int)), (12, I i2607), (35, .one (.e (.sl 0 0 i2607.toNat))), (36, I ((i2607.toNat : Nat) : Int)), (37, I i3094), (46, B false), (52, B (decide (((x1.getD i3094.toNat dver).tm) = ((x1.getD i2607.toNat dver).tm))))], [.row .ver x1 false, .cells [cI ((x1.getD i2607.toNat dver).node), cI ((x1.getD i2607.toNat dver).value), cI ((x1.getD i2607.toNat dver).tm)], .cells [cI ((x1.getD i3094.toNat dver).node), cI ((x1.getD i3094.toNat dver).value), cI ((x1.getD i3094.toNat dver).tm)]]⟩ (by kernel_rfl) ⟨trivial, trivial, trivial, trivial⟩ ?_
          refine WO_if 52 rfl (fun hb3130 => ?_) (fun hb3130 => ?_)
          · refine WO_step 7 [0, 1] [0, 4, 10, 11, 12, 35, 36, 37, 59] (True ∧ (True ∧ (True ∧ True))) ⟨[(0, .one (.e (.sl 0 0 x1.length))), (4, .one (.e (.p 1 0))), (10, .one (.e (.sl 0 0 x1.length))), (11, I ((x1.length : Nat) : Int)), (12, I i2607), (35, .one (.e (.sl 0 0 i2607.toNat))), (36, I ((i2607.toNat : Nat) : Int)), (37, I i3094), (59, B (decide (((x1.getD i3094.toNat dver).node) = ((x1.getD i2607.toNat dver).node))))], [.row .ver x1 false, .cells [cI ((x1.getD i2607.toNat dver).node), cI ((x1.getD i2607.toNat dver).value), cI ((x1.getD i2607.toNat dver).tm)]]⟩ (by kernel_rfl) ⟨trivial, trivial, trivial, trivial⟩ ?_
            exact WO_nil rfl ⟨rfl, by first | rfl | (simp only [hb3129, hb3130]; first | done | rfl)⟩
          · refine WO_step 7 [0, 1] [0, 4, 10, 11, 12, 35, 36, 37, 59] True ⟨[(0, .one (.e (.sl 0 0 x1.length))), (4, .one (.e (.p 1 0))), (10, .one (.e (.sl 0 0 x1.length))), (11, I ((x1.length : Nat) : Int)), (12, I i2607), (35, .one (.e (.sl 0 0 i2607.toNat))), (36, I ((i2607.toNat : Nat) : Int)), (37, I i3094), (59, B false)], [.row .ver x1 false, .cells [cI ((x1.getD i2607.toNat dver).node), cI ((x1.getD i2607.toNat dver).value), cI ((x1.getD i2607.toNat dver).tm)]]⟩ (by kernel_rfl) trivial ?_
            exact WO_nil rfl ⟨rfl, by first | rfl | (simp only [hb3129, hb3130]; first | done | rfl)⟩
      · refine thenS_n ?_
        refine iteO_e h (fun hb3132 h => W_true rfl hb3132 ?_) (fun hb3132 h => W_false rfl hb3132 ?_)
        · refine W_seq ?_
          refine W_region ?_
          refine WO_step 1 [0] [2] True ⟨[(2, B false)], [.row .ver x1 false]⟩ (by kernel_rfl) trivial ?_
          refine WO_nil rfl ?_
          refine thenS_n ?_
          refine W_ret ?_
          refine blockS_r ?_
          refine thenS_r ?_
          refine thenS_r ?_
          cases h
          exact And.intro rfl rfl
        · refine W_sub [0, 1] [0, 4, 10, 11, 12, 35, 36, 37] (st' := ⟨[(0, .one (.e (.sl 0 0 x1.length))), (4, .one (.e (.p 1 0))), (10, .one (.e (.sl 0 0 x1.length))), (11, I ((x1.length : Nat) : Int)), (12, I i2607), (35, .one (.e (.sl 0 0 i2607.toNat))), (36, I ((i2607.toNat : Nat) : Int)), (37, I i3094)], [.row .ver x1 false, .cells [cI ((x1.getD i2607.toNat dver).node), cI ((x1.getD i2607.toNat dver).value), cI ((x1.getD i2607.toNat dver).tm)]]⟩) (by kernel_rfl) ?_
          refine W_skip ?_
          refine blockS_n ?_
          refine thenS_n ?_
          refine W_region ?_
          refine WO_step 2 [0, 1] [0, 4, 10, 11, 12, 35, 36, 37] (True ∧ True) ⟨[(0, .one (.e (.sl 0 0 x1.length))), (4, .one (.e (.p 1 0))), (10, .one (.e (.sl 0 0 x1.length))), (11, I ((x1.length : Nat) : Int)), (12, I i2607), (35, .one (.e (.sl 0 0 i2607.toNat))), (36, I ((i2607.toNat : Nat) : Int)), (37, I (w64 (i3094 + 1)))], [.row .ver x1 false, .cells [cI ((x1.getD i2607.toNat dver).node), cI ((x1.getD i2607.toNat dver).value), cI ((x1.getD i2607.toNat dver).tm)]]⟩ (by kernel_rfl) ⟨trivial, trivial⟩ ?_
          refine WO_nil rfl ?_
          refine thenS_n ?_
          exact ih _ h
    · refine W_sub [0] [0, 10, 11, 12] (st' := ⟨[(0, .one (.e (.sl 0 0 x1.length))), (10, .one (.e (.sl 0 0 x1.length))), (11, I ((x1.length : Nat) : Int)), (12, I i2607)], [.row .ver x1 false]⟩) (by kernel_rfl) ?_
      refine W_exit ?_
      refine thenS_e ?_
      refine thenS_e ?_
      cases h
      exact And.intro rfl rfl

def impl_ValidVersions_L48 (x1 : List Ver) : Nat → Int → Option ((Unit) ⊕ (Unit))
| 0, _ => none
| n + 1, i2607 =>
 iteO (decide (i2607 < ((x1.length : Nat) : Int)))
 (guardO (0 ≤ i2607 ∧ i2607 < ((x1.length : Nat) : Int)) <|
 iteO ((!(impl_within ((x1.getD i2607.toNat dver).node) 0 11)) || ((!(impl_within ((x1.getD i2607.toNat dver).value) (-1000) 1000)) || (!(impl_within ((x1.getD i2607.toNat dver).tm) 0 100))))
 (some (.inl ()))
 (guardO (0 ≤ i2607 ∧ i2607 ≤ ((x1.length : Nat) : Int)) <|
 bindO (impl_ValidVersions_L52 x1 i2607 n 0) fun v3133 =>
 match v3133 with
 | (.inl _) => (some (.inl ()))
 | (.inr _) => (impl_ValidVersions_L48 x1 n (w64 (i2607 + 1)))
))
 (some (.inr ()))

theorem impl_ValidVersions_L48_ok (w : World) (X : Nat → Prop) (θ : List Loc) (x1 : List Ver) (v : (Unit) ⊕ (Unit)) : ∀ (n : Nat) (i2607 : Int), impl_ValidVersions_L48 x1 n i2607 = some v → WL EE ⟨w, X, θ, 62, 1⟩ (subC [1, 1, 0, 1, 4, 4] (bodyC Try.f20)) (fun (e : Exit) (s : St) => (match v with | (.inl _) => e = .ret ∧ s = ⟨[(2, B false)], [.row .ver x1 false]⟩ | (.inr _) => e = .exit 0 ∧ s = ⟨[], [.row .ver x1 false]⟩ : Prop)) ⟨[(0, .one (.e (.sl 0 0 x1.length))), (10, .one (.e (.sl 0 0 x1.length))), (11, I ((x1.length : Nat) : Int)), (12, I i2607)], [.row .ver x1 false]⟩ := by
  intro n
  induction n with
  | zero => intro _ h; exact none_e h
  | succ n ih =>
    intro i2607 h
    rw [impl_ValidVersions_L48] at h
    refine WL_round ?_
    refine W_seq ?_
    refine W_region ?_
    refine WO_step 1 [0] [0, 10, 11, 12, 13] (True ∧ True) ⟨[(0, .one (.e (.sl 0 0 x1.length))), (10, .one (.e (.sl 0 0 x1.length))), (11, I ((x1.length : Nat) : Int)), (12, I i2607), (13, B (decide (i2607 < ((x1.length : Nat) : Int))))], [.row .ver x1 false]⟩ (by kernel_rfl) ⟨trivial, trivial⟩ ?_
    refine WO_nil rfl ?_
    refine thenS_n ?_
    refine W_seq ?_
    refine iteO_e h (fun hb2873 h => W_true rfl hb2873 ?_) (fun hb2873 h => W_false rfl hb2873 ?_)
    · refine W_sub [0] [0, 10, 11, 12] (st' := ⟨[(0, .one (.e (.sl 0 0 x1.length))), (10, .one (.e (.sl 0 0 x1.length))), (11, I ((x1.length : Nat) : Int)), (12, I i2607)], [.row .ver x1 false]⟩) (by kernel_rfl) ?_
      refine W_skip ?_
      refine thenS_n ?_
      refine W_seq ?_
      refine W_block ?_
      refine W_seq ?_
      refine W_region ?_
      refine guardO_e h (fun hg3004 h => ?_)
      refine WO_step 6 [0, 1] [0, 3, 4, 10, 11, 12] ((0 ≤ i2607 ∧ i2607 < ((x1.length : Nat) : Int)) ∧ (True ∧ (True ∧ (True ∧ True)))) ⟨[(0, .one (.e (.sl 0 0 x1.length))), (3, I i2607), (4, .one (.e (.p 1 0))), (10, .one (.e (.sl 0 0 x1.length))), (11, I ((x1.length : Nat) : Int)), (12, I i2607)], [.row .ver x1 false, .cells [cI ((x1.getD i2607.toNat dver).node), cI ((x1.getD i2607.toNat dver).value), cI ((x1.getD i2607.toNat dver).tm)]]⟩ (by kernel_rfl) ⟨hg3004, trivial, trivial, trivial, trivial⟩ ?_
      refine WO_nil rfl ?_
      refine thenS_n ?_
      refine W_seq ?_
      refine W_seq ?_
      refine W_region ?_
      refine WO_step 2 [0, 1] [0, 3, 4, 10, 11, 12, 18] (True ∧ True) ⟨[(0, .one (.e (.sl 0 0 x1.length))), (3, I i2607), (4, .one (.e (.p 1 0))), (10, .one (.e (.sl 0 0 x1.length))), (11, I ((x1.length : Nat) : Int)), (12, I i2607), (18, I ((x1.getD i2607.toNat dver).node))], [.row .ver x1 false, .cells [cI ((x1.getD i2607.toNat dver).node), cI ((x1.getD i2607.toNat dver).value), cI ((x1.getD i2607.toNat dver).tm)]]⟩ (by kernel_rfl) ⟨trivial, trivial⟩ ?_
      refine WO_call [] Try.f37 rfl rfl rfl (by kernel_rfl) rfl rfl (by kernel_rfl) (impl_within_ok ((x1.getD i2607.toNat dver).node) 0 11) (trivial) rfl ?_
      refine WO_step 2 [0, 1] [0, 3, 4, 10, 11, 12, 21] True ⟨[(0, .one (.e (.sl 0 0 x1.length))), (3, I i2607), (4, .one (.e (.p 1 0))), (10, .one (.e (.sl 0 0 x1.length))), (11, I ((x1.length : Nat) : Int)), (12, I i2607), (21, B (!(impl_within ((x1.getD i2607.toNat dver).node) 0 11)))], [.row .ver x1 false, .cells [cI ((x1.getD i2607.toNat dver).node), cI ((x1.getD i2607.toNat dver).value), cI ((x1.getD i2607.toNat dver).tm)]]⟩ (by kernel_rfl) trivial ?_
      refine WO_thru ⟨[(0, .one (.e (.sl 0 0 x1.length))), (3, I i2607), (4, .one (.e (.p 1 0))), (10, .one (.e (.sl 0 0 x1.length))), (11, I ((x1.length : Nat) : Int)), (12, I i2607), (32, B ((!(impl_within ((x1.getD i2607.toNat dver).node) 0 11)) || ((!(impl_within ((x1.getD i2607.toNat dver).value) (-1000) 1000)) || (!(impl_within ((x1.getD i2607.toNat dver).tm) 0 100)))))], [.row .ver x1 false, .cells [cI ((x1.getD i2607.toNat dver).node), cI ((x1.getD i2607.toNat dver).value), cI ((x1.getD i2607.toNat dver).tm)]]⟩ ?_ ?_
      · refine WO_if 21 rfl (fun hb3011 => ?_) (fun hb3011 => ?_)
        · refine WO_step 11 [0, 1] [0, 3, 4, 10, 11, 12, 32] True ⟨[(0, .one (.e (.sl 0 0 x1.length))), (3, I i2607), (4, .one (.e (.p 1 0))), (10, .one (.e (.sl 0 0 x1.length))), (11, I ((x1.length : Nat) : Int)), (12, I i2607), (32, B true)], [.row .ver x1 false, .cells [cI ((x1.getD i2607.toNat dver).node), cI ((x1.getD i2607.toNat dver).value), cI ((x1.getD i2607.toNat dver).tm)]]⟩ (by kernel_rfl) trivial ?_
          exact WO_nil rfl ⟨rfl, by first | rfl | (rw [hb3011]; first | done | rfl)⟩
        · refine WO_step 2 [0, 1] [0, 3, 4, 10, 11, 12, 21, 23] (True ∧ True) ⟨[(0, .one (.e (.sl 0 0 x1.length))), (3, I i2607), (4, .one (.e (.p 1 0))), (10, .one (.e (.sl 0 0 x1.length))), (11, I ((x1.length : Nat) : Int)), (12, I i2607), (21, B false), (23, I ((x1.getD i2607.toNat dver).value))], [.row .ver x1 false, .cells [cI ((x1.getD i2607.toNat dver).node), cI ((x1.getD i2607.toNat dver).value), cI ((x1.getD i2607.toNat dver).tm)]]⟩ (by kernel_rfl) ⟨trivial, trivial⟩ ?_
          refine WO_call [] Try.f37 rfl rfl rfl (by kernel_rfl) rfl rfl (by kernel_rfl) (impl_within_ok ((x1.getD i2607.toNat dver).value) (-1000) 1000) (trivial) rfl ?_
          refine WO_step 3 [0, 1] [0, 3, 4, 10, 11, 12, 27] True ⟨[(0, .one (.e (.sl 0 0 x1.length))), (3, I i2607), (4, .one (.e (.p 1 0))), (10, .one (.e (.sl 0 0 x1.length))), (11, I ((x1.length : Nat) : Int)), (12, I i2607), (27, B (!(impl_within ((x1.getD i2607.toNat dver).value) (-1000) 1000)))], [.row .ver x1 false, .cells [cI ((x1.getD i2607.toNat dver).node), cI ((x1.getD i2607.toNat dver).value), cI ((x1.getD i2607.toNat dver).tm)]]⟩ (by kernel_rfl) trivial ?_
          refine WO_if 27 rfl (fun hb3013 => ?_) (fun hb3013 => ?_)
          · refine WO_step 5 [0, 1] [0, 3, 4, 10, 11, 12, 32] True ⟨[(0, .one (.e (.sl 0 0 x1.length))), (3, I i2607), (4, .one (.e (.p 1 0))), (10, .one (.e (.sl 0 0 x1.length))), (11, I ((x1.length : Nat) : Int)), (12, I i2607), (32, B true)], [.row .ver x1 false, .cells [cI ((x1.getD i2607.toNat dver).node), cI ((x1.getD i2607.toNat dver).value), cI ((x1.getD i2607.toNat dver).tm)]]⟩ (by kernel_rfl) trivial ?_
            exact WO_nil rfl ⟨rfl, by first | rfl | (simp only [hb3011, hb3013]; first | done | rfl)⟩
          · refine WO_step 2 [0, 1] [0, 3, 4, 10, 11, 12, 27, 29] (True ∧ True) ⟨[(0, .one (.e (.sl 0 0 x1.length))), (3, I i2607), (4, .one (.e (.p 1 0))), (10, .one (.e (.sl 0 0 x1.length))), (11, I ((x1.length : Nat) : Int)), (12, I i2607), (27, B false), (29, I ((x1.getD i2607.toNat dver).tm))], [.row .ver x1 false, .cells [cI ((x1.getD i2607.toNat dver).node), cI ((x1.getD i2607.toNat dver).value), cI ((x1.getD i2607.toNat dver).tm)]]⟩ (by kernel_rfl) ⟨trivial, trivial⟩ ?_
            refine WO_call [] Try.f37 rfl rfl rfl (by kernel_rfl) rfl rfl (by kernel_rfl) (impl_within_ok ((x1.getD i2607.toNat dver).tm) 0 100) (trivial) rfl ?_
            refine WO_step 2 [0, 1] [0, 3, 4, 10, 11, 12, 32] True ⟨[(0, .one (.e (.sl 0 0 x1.length))), (3, I i2607), (4, .one (.e (.p 1 0))), (10, .one (.e (.sl 0 0 x1.length))), (11, I ((x1.length : Nat) : Int)), (12, I i2607), (32, B (!(impl_within ((x1.getD i2607.toNat dver).tm) 0 100)))], [.row .ver x1 false, .cells [cI ((x1.getD i2607.toNat dver).node), cI ((x1.getD i2607.toNat dver).value), cI ((x1.getD i2607.toNat dver).tm)]]⟩ (by kernel_rfl) trivial ?_
            exact WO_nil rfl ⟨rfl, by first | rfl | (simp only [hb3011, hb3013]; first | done | rfl)⟩
      · refine thenS_n ?_
        refine iteO_e h (fun hb3016 h => W_true rfl hb3016 ?_) (fun hb3016 h => W_false rfl hb3016 ?_)
        · refine W_seq ?_
          refine W_region ?_
          refine WO_step 1 [0] [2] True ⟨[(2, B false)], [.row .ver x1 false]⟩ (by kernel_rfl) trivial ?_
          refine WO_nil rfl ?_
          refine thenS_n ?_
          refine W_ret ?_
          refine thenS_r ?_
          refine blockS_r ?_
          refine thenS_r ?_
          refine thenS_r ?_
          cases h
          exact And.intro rfl rfl
        · refine W_sub [0, 1] [0, 3, 4, 10, 11, 12] (st' := ⟨[(0, .one (.e (.sl 0 0 x1.length))), (3, I i2607), (4, .one (.e (.p 1 0))), (10, .one (.e (.sl 0 0 x1.length))), (11, I ((x1.length : Nat) : Int)), (12, I i2607)], [.row .ver x1 false, .cells [cI ((x1.getD i2607.toNat dver).node), cI ((x1.getD i2607.toNat dver).value), cI ((x1.getD i2607.toNat dver).tm)]]⟩) (by kernel_rfl) ?_
          refine W_skip ?_
          refine thenS_n ?_
          refine W_seq ?_
          refine W_region ?_
          refine guardO_e h (fun hg3017 h => ?_)
          refine WO_step 5 [0, 1] [0, 4, 10, 11, 12, 35, 36, 37] ((0 ≤ i2607 ∧ i2607 ≤ ((x1.length : Nat) : Int)) ∧ (True ∧ True)) ⟨[(0, .one (.e (.sl 0 0 x1.length))), (4, .one (.e (.p 1 0))), (10, .one (.e (.sl 0 0 x1.length))), (11, I ((x1.length : Nat) : Int)), (12, I i2607), (35, .one (.e (.sl 0 0 i2607.toNat))), (36, I ((i2607.toNat : Nat) : Int)), (37, I 0)], [.row .ver x1 false, .cells [cI ((x1.getD i2607.toNat dver).node), cI ((x1.getD i2607.toNat dver).value), cI ((x1.getD i2607.toNat dver).tm)]]⟩ (by kernel_rfl) ⟨hg3017, trivial, trivial⟩ ?_
          refine WO_nil rfl ?_
          refine thenS_n ?_
          refine W_block ?_
          refine W_loop ?_
          refine bindO_e h (fun v3133 hv3133 h => ?_)
          refine WL_cut (impl_ValidVersions_L52_ok w X θ x1 i2607 v3133 n 0 hv3133) ?_
          rcases v3133 with _ | _
          · rintro _ _ ⟨rfl, rfl⟩
            refine blockS_r ?_
            refine blockS_r ?_
            refine thenS_r ?_
            refine thenS_r ?_
            cases h
            exact And.intro rfl rfl
          · rintro _ _ ⟨rfl, rfl⟩
            refine blockS_y ?_
            refine blockS_n ?_
            refine thenS_n ?_
            refine W_region ?_
            refine WO_step 2 [0] [0, 10, 11, 12] (True ∧ True) ⟨[(0, .one (.e (.sl 0 0 x1.length))), (10, .one (.e (.sl 0 0 x1.length))), (11, I ((x1.length : Nat) : Int)), (12, I (w64 (i2607 + 1)))], [.row .ver x1 false]⟩ (by kernel_rfl) ⟨trivial, trivial⟩ ?_
            refine WO_nil rfl ?_
            refine thenS_n ?_
            exact ih _ h
    · refine W_sub [0] [] (st' := ⟨[], [.row .ver x1 false]⟩) (by kernel_rfl) ?_
      refine W_exit ?_
      refine thenS_e ?_
      refine thenS_e ?_
      cases h
      exact And.intro rfl rfl

def impl_ValidVersions (n : Nat) (x1 : List Ver) : Option (Bool) :=
 iteO (decide (16 < ((x1.length : Nat) : Int)))
 (some false)
 (bindO (impl_ValidVersions_L48 x1 n 0) fun v3134 =>
 match v3134 with
 | (.inl _) => (some false)
 | (.inr _) => (some true)
)

theorem impl_ValidVersions_ok (n : Nat) (x1 : List Ver) (b1568 : Bool) (h : impl_ValidVersions n x1 = some b1568) : FOk EE 20 [.one (.e (.sl 0 0 x1.length))] [.row .ver x1 false] (B b1568) [.row .ver x1 false] := by
  unfold impl_ValidVersions at h
  refine FOk_of_W 62 1 Try.func20 rfl rfl (Nat.le_of_ble_eq_true rfl) rfl (fun w X θ => ?_)
  refine W_seq ?_
  refine W_region ?_
  refine WO_step 1 [0] [0] True ⟨[(0, .one (.e (.sl 0 0 x1.length)))], [.row .ver x1 false]⟩ (by kernel_rfl) trivial ?_
  refine WO_nil rfl ?_
  refine thenS_n ?_
  refine W_seq ?_
  refine W_seq ?_
  refine W_region ?_
  refine WO_step 3 [0] [0, 9] (True ∧ (True ∧ True)) ⟨[(0, .one (.e (.sl 0 0 x1.length))), (9, B (decide (16 < ((x1.length : Nat) : Int))))], [.row .ver x1 false]⟩ (by kernel_rfl) ⟨trivial, trivial, trivial⟩ ?_
  refine WO_nil rfl ?_
  refine thenS_n ?_
  refine iteO_e h (fun hb1570 h => W_true rfl hb1570 ?_) (fun hb1570 h => W_false rfl hb1570 ?_)
  · refine W_seq ?_
    refine W_region ?_
    refine WO_step 1 [0] [2] True ⟨[(2, B false)], [.row .ver x1 false]⟩ (by kernel_rfl) trivial ?_
    refine WO_nil rfl ?_
    refine thenS_n ?_
    refine W_ret ?_
    refine thenS_r ?_
    cases h
    exact ⟨[0], by kernel_rfl⟩
  · refine W_sub [0] [0] (st' := ⟨[(0, .one (.e (.sl 0 0 x1.length)))], [.row .ver x1 false]⟩) (by kernel_rfl) ?_
    refine W_skip ?_
    refine thenS_n ?_
    refine W_seq ?_
    refine W_seq ?_
    refine W_region ?_
    refine WO_step 3 [0] [0, 10, 11, 12] (True ∧ True) ⟨[(0, .one (.e (.sl 0 0 x1.length))), (10, .one (.e (.sl 0 0 x1.length))), (11, I ((x1.length : Nat) : Int)), (12, I 0)], [.row .ver x1 false]⟩ (by kernel_rfl) ⟨trivial, trivial⟩ ?_
    refine WO_nil rfl ?_
    refine thenS_n ?_
    refine W_block ?_
    refine W_loop ?_
    refine bindO_e h (fun v3134 hv3134 h => ?_)
    refine WL_cut (impl_ValidVersions_L48_ok w X θ x1 v3134 n 0 hv3134) ?_
    rcases v3134 with _ | _
    · rintro _ _ ⟨rfl, rfl⟩
      refine blockS_r ?_
      refine thenS_r ?_
      cases h
      exact ⟨[0], by kernel_rfl⟩
    · rintro _ _ ⟨rfl, rfl⟩
      refine blockS_y ?_
      refine thenS_n ?_
      refine W_seq ?_
      refine W_region ?_
      refine WO_step 1 [0] [2] True ⟨[(2, B true)], [.row .ver x1 false]⟩ (by kernel_rfl) trivial ?_
      refine WO_nil rfl ?_
      refine thenS_n ?_
      refine W_ret ?_
      cases h
      exact ⟨[0], by kernel_rfl⟩

/- laws.eqVersion -/
def laws_eqVersion (x1 : Ver) (x2 : Ver) : Option (Bool) :=
 iteO (!decide (x1.node = x2.node))
 (some false)
 (iteO (!decide (x1.value = x2.value))
 (some false)
 (iteO (!decide (x1.tm = x2.tm))
 (some false)
 (some true)))

theorem laws_eqVersion_ok (x1 : Ver) (x2 : Ver) (b9 : Bool) (h : laws_eqVersion x1 x2 = some b9) : FOk EE 38 [AGG [cI x1.node, cI x1.value, cI x1.tm], AGG [cI x2.node, cI x2.value, cI x2.tm]] [] (B b9) [] := by
  unfold laws_eqVersion at h
  refine FOk_of_W 20 0 Try.func38 rfl rfl (Nat.le_of_ble_eq_true rfl) rfl (fun w X θ => ?_)
  refine W_seq ?_
  refine W_region ?_
  refine WO_step 3 [0, 1] [2, 3] (True ∧ (True ∧ True)) ⟨[(2, .one (.e (.p 0 0))), (3, .one (.e (.p 1 0)))], [.cells [cI x1.node, cI x1.value, cI x1.tm], .cells [cI x2.node, cI x2.value, cI x2.tm]]⟩ (by kernel_rfl) ⟨trivial, trivial, trivial⟩ ?_
  refine WO_nil rfl ?_
  refine thenS_n ?_
  refine W_seq ?_
  refine W_seq ?_
  refine W_region ?_
  refine WO_step 5 [0, 1] [2, 3, 9] (True ∧ (True ∧ (True ∧ True))) ⟨[(2, .one (.e (.p 0 0))), (3, .one (.e (.p 1 0))), (9, B (!decide (x1.node = x2.node)))], [.cells [cI x1.node, cI x1.value, cI x1.tm], .cells [cI x2.node, cI x2.value, cI x2.tm]]⟩ (by kernel_rfl) ⟨trivial, trivial, trivial, trivial⟩ ?_
  refine WO_nil rfl ?_
  refine thenS_n ?_
  refine iteO_e h (fun hb11 h => W_true rfl hb11 ?_) (fun hb11 h => W_false rfl hb11 ?_)
  · refine W_seq ?_
    refine W_region ?_
    refine WO_step 1 [] [4] True ⟨[(4, B false)], []⟩ (by kernel_rfl) trivial ?_
    refine WO_nil rfl ?_
    refine thenS_n ?_
    refine W_ret ?_
    refine thenS_r ?_
    cases h
    exact ⟨[], by kernel_rfl⟩
  · refine W_sub [0, 1] [2, 3] (st' := ⟨[(2, .one (.e (.p 0 0))), (3, .one (.e (.p 1 0)))], [.cells [cI x1.node, cI x1.value, cI x1.tm], .cells [cI x2.node, cI x2.value, cI x2.tm]]⟩) (by kernel_rfl) ?_
    refine W_skip ?_
    refine thenS_n ?_
    refine W_seq ?_
    refine W_seq ?_
    refine W_region ?_
    refine WO_step 5 [0, 1] [2, 3, 14] (True ∧ (True ∧ (True ∧ True))) ⟨[(2, .one (.e (.p 0 0))), (3, .one (.e (.p 1 0))), (14, B (!decide (x1.value = x2.value)))], [.cells [cI x1.node, cI x1.value, cI x1.tm], .cells [cI x2.node, cI x2.value, cI x2.tm]]⟩ (by kernel_rfl) ⟨trivial, trivial, trivial, trivial⟩ ?_
    refine WO_nil rfl ?_
    refine thenS_n ?_
    refine iteO_e h (fun hb13 h => W_true rfl hb13 ?_) (fun hb13 h => W_false rfl hb13 ?_)
    · refine W_seq ?_
      refine W_region ?_
      refine WO_step 1 [] [4] True ⟨[(4, B false)], []⟩ (by kernel_rfl) trivial ?_
      refine WO_nil rfl ?_
      refine thenS_n ?_
      refine W_ret ?_
      refine thenS_r ?_
      cases h
      exact ⟨[], by kernel_rfl⟩
    · refine W_sub [0, 1] [2, 3] (st' := ⟨[(2, .one (.e (.p 0 0))), (3, .one (.e (.p 1 0)))], [.cells [cI x1.node, cI x1.value, cI x1.tm], .cells [cI x2.node, cI x2.value, cI x2.tm]]⟩) (by kernel_rfl) ?_
      refine W_skip ?_
      refine thenS_n ?_
      refine W_seq ?_
      refine W_seq ?_
      refine W_region ?_
      refine WO_step 5 [] [19] (True ∧ (True ∧ (True ∧ True))) ⟨[(19, B (!decide (x1.tm = x2.tm)))], []⟩ (by kernel_rfl) ⟨trivial, trivial, trivial, trivial⟩ ?_
      refine WO_nil rfl ?_
      refine thenS_n ?_
      refine iteO_e h (fun hb15 h => W_true rfl hb15 ?_) (fun hb15 h => W_false rfl hb15 ?_)
      · refine W_seq ?_
        refine W_region ?_
        refine WO_step 1 [] [4] True ⟨[(4, B false)], []⟩ (by kernel_rfl) trivial ?_
        refine WO_nil rfl ?_
        refine thenS_n ?_
        refine W_ret ?_
        refine thenS_r ?_
        cases h
        exact ⟨[], by kernel_rfl⟩
      · refine W_sub [] [] (st' := ⟨[], []⟩) (by kernel_rfl) ?_
        refine W_skip ?_
        refine thenS_n ?_
        refine W_seq ?_
        refine W_region ?_
        refine WO_step 1 [] [4] True ⟨[(4, B true)], []⟩ (by kernel_rfl) trivial ?_
        refine WO_nil rfl ?_
        refine thenS_n ?_
        refine W_ret ?_
        cases h
        exact ⟨[], by kernel_rfl⟩

/- laws.eqVersionS -/
def laws_eqVersionS_L4 (x1 : List Ver) (x2 : List Ver) : Nat → Int → Option ((Unit) ⊕ (Unit))
| 0, _ => none
| n + 1, i160 =>
 iteO (decide (i160 < ((x1.length : Nat) : Int)))
 (guardO (0 ≤ i160 ∧ i160 < ((x1.length : Nat) : Int)) <|
 guardO (0 ≤ i160 ∧ i160 < ((x2.length : Nat) : Int)) <|
 bindO (laws_eqVersion (x1.getD i160.toNat dver) (x2.getD i160.toNat dver)) fun b187 =>
 iteO (!b187)
 (some (.inl ()))
 (laws_eqVersionS_L4 x1 x2 n (w64 (i160 + 1))))
 (some (.inr ()))

theorem laws_eqVersionS_L4_ok (w : World) (X : Nat → Prop) (θ : List Loc) (x1 : List Ver) (x2 : List Ver) (v : (Unit) ⊕ (Unit)) : ∀ (n : Nat) (i160 : Int), laws_eqVersionS_L4 x1 x2 n i160 = some v → WL EE ⟨w, X, θ, 27, 2⟩ (subC [1, 1, 0, 1, 4, 4] (bodyC Try.f21)) (fun (e : Exit) (s : St) => (match v with | (.inl _) => e = .ret ∧ s = ⟨[(4, B false)], [.row .ver x1 false, .row .ver x2 false]⟩ | (.inr _) => e = .exit 0 ∧ s = ⟨[], [.row .ver x1 false, .row .ver x2 false]⟩ : Prop)) ⟨[(0, .one (.e (.sl 0 0 x1.length))), (1, .one (.e (.sl 1 0 x2.length))), (5, I i160)], [.row .ver x1 false, .row .ver x2 false]⟩ := by
  intro n
  induction n with
  | zero => intro _ h; exact none_e h
  | succ n ih =>
    intro i160 h
    rw [laws_eqVersionS_L4] at h
    refine WL_round ?_
    refine W_seq ?_
    refine W_seq ?_
    refine W_region ?_
    refine WO_step 4 [0, 1] [0, 1, 5, 14] (True ∧ (True ∧ True)) ⟨[(0, .one (.e (.sl 0 0 x1.length))), (1, .one (.e (.sl 1 0 x2.length))), (5, I i160), (14, B (decide (i160 < ((x1.length : Nat) : Int))))], [.row .ver x1 false, .row .ver x2 false]⟩ (by kernel_rfl) ⟨trivial, trivial, trivial⟩ ?_
    refine WO_nil rfl ?_
    refine thenS_n ?_
    refine iteO_e h (fun hb178 h => W_true rfl hb178 ?_) (fun hb178 h => W_false rfl hb178 ?_)
    · refine W_sub [0, 1] [0, 1, 5] (st' := ⟨[(0, .one (.e (.sl 0 0 x1.length))), (1, .one (.e (.sl 1 0 x2.length))), (5, I i160)], [.row .ver x1 false, .row .ver x2 false]⟩) (by kernel_rfl) ?_
      refine W_skip ?_
      refine thenS_n ?_
      refine W_seq ?_
      refine W_block ?_
      refine W_seq ?_
      refine guardO_e h (fun hg185 h => ?_)
      refine guardO_e h (fun hg186 h => ?_)
      refine bindO_e h (fun b187 hc188 h => ?_)
      refine W_cut (Q' := fun (e : Exit) (s : St) => e = .normal ∧ s = ⟨[(0, .one (.e (.sl 0 0 x1.length))), (1, .one (.e (.sl 1 0 x2.length))), (5, I i160), (26, B (!b187))], [.row .ver x1 false, .row .ver x2 false]⟩) ?_ ?_
      · refine W_draw [] false (by kernel_rfl) (by kernel_rfl) ?_
        refine WD_takeK [0, 1, 2, 3, 4, 5, 6, 7] [0, 1, 5, 20, 24] [0, 1, 5, 20, 24] (φ := ((0 ≤ i160 ∧ i160 < ((x1.length : Nat) : Int)) ∧ (0 ≤ i160 ∧ i160 < ((x1.length : Nat) : Int)) ∧ (True ∧ True ∧ ((0 ≤ i160 ∧ i160 < ((x2.length : Nat) : Int)) ∧ (0 ≤ i160 ∧ i160 < ((x2.length : Nat) : Int)) ∧ (True ∧ True ∧ True))))) (ls' := #[true, true, true, true, true, true, true, true, false, false]) (Ts' := [(0, .one (.e (.sl 0 0 x1.length))), (1, .one (.e (.sl 1 0 x2.length))), (5, I i160), (20, AGG [cI ((x1.getD i160.toNat dver).node), cI ((x1.getD i160.toNat dver).value), cI ((x1.getD i160.toNat dver).tm)]), (24, AGG [cI ((x2.getD i160.toNat dver).node), cI ((x2.getD i160.toNat dver).value), cI ((x2.getD i160.toNat dver).tm)])]) (st' := ⟨[(0, .one (.e (.sl 0 0 x1.length))), (1, .one (.e (.sl 1 0 x2.length))), (5, I i160), (20, AGG [cI ((x1.getD i160.toNat dver).node), cI ((x1.getD i160.toNat dver).value), cI ((x1.getD i160.toNat dver).tm)]), (24, AGG [cI ((x2.getD i160.toNat dver).node), cI ((x2.getD i160.toNat dver).value), cI ((x2.getD i160.toNat dver).tm)])], [.row .ver x1 false, .row .ver x2 false]⟩) (n2 := 2) (by kernel_rfl) ⟨hg185, hg185, trivial, trivial, hg186, hg186, trivial, trivial, trivial⟩ rfl ?_
        refine WD_all [8] (n := 1) (by kernel_rfl) rfl ?_
        refine WM_call [] Try.f38 rfl rfl (by kernel_rfl) rfl rfl (by kernel_rfl) (laws_eqVersion_ok (x1.getD i160.toNat dver) (x2.getD i160.toNat dver) b187 hc188) (trivial) rfl (And.intro rfl (And.intro rfl (trivial))) ?_
        refine WD_takeK [9] [0, 1, 5, 26] [0, 1, 5, 26] (φ := True) (ls' := #[true, true, true, true, true, true, true, true, true, true]) (Ts' := [(0, .one (.e (.sl 0 0 x1.length))), (1, .one (.e (.sl 1 0 x2.length))), (5, I i160), (26, B (!b187))]) (st' := ⟨[(0, .one (.e (.sl 0 0 x1.length))), (1, .one (.e (.sl 1 0 x2.length))), (5, I i160), (26, B (!b187))], [.row .ver x1 false, .row .ver x2 false]⟩) (n2 := 0) (by kernel_rfl) trivial rfl ?_
        exact WD_done [0, 1] [0, 1, 5, 26] (st' := ⟨[(0, .one (.e (.sl 0 0 x1.length))), (1, .one (.e (.sl 1 0 x2.length))), (5, I i160), (26, B (!b187))], [.row .ver x1 false, .row .ver x2 false]⟩) (by kernel_rfl) (by kernel_rfl) (And.intro rfl rfl)
      · rintro _ _ ⟨rfl, rfl⟩
        refine thenS_n ?_
        refine iteO_e h (fun hb190 h => W_true rfl hb190 ?_) (fun hb190 h => W_false rfl hb190 ?_)
        · refine W_seq ?_
          refine W_region ?_
          refine WO_step 1 [0, 1] [4] True ⟨[(4, B false)], [.row .ver x1 false, .row .ver x2 false]⟩ (by kernel_rfl) trivial ?_
          refine WO_nil rfl ?_
          refine thenS_n ?_
          refine W_ret ?_
          refine blockS_r ?_
          refine thenS_r ?_
          refine thenS_r ?_
          cases h
          exact And.intro rfl rfl
        · refine W_sub [0, 1] [0, 1, 5] (st' := ⟨[(0, .one (.e (.sl 0 0 x1.length))), (1, .one (.e (.sl 1 0 x2.length))), (5, I i160)], [.row .ver x1 false, .row .ver x2 false]⟩) (by kernel_rfl) ?_
          refine W_skip ?_
          refine blockS_n ?_
          refine thenS_n ?_
          refine W_region ?_
          refine WO_step 3 [0, 1] [0, 1, 5] (True ∧ True) ⟨[(0, .one (.e (.sl 0 0 x1.length))), (1, .one (.e (.sl 1 0 x2.length))), (5, I (w64 (i160 + 1)))], [.row .ver x1 false, .row .ver x2 false]⟩ (by kernel_rfl) ⟨trivial, trivial⟩ ?_
          refine WO_nil rfl ?_
          refine thenS_n ?_
          exact ih _ h
    · refine W_sub [0, 1] [] (st' := ⟨[], [.row .ver x1 false, .row .ver x2 false]⟩) (by kernel_rfl) ?_
      refine W_exit ?_
      refine thenS_e ?_
      refine thenS_e ?_
      cases h
      exact And.intro rfl rfl

def laws_eqVersionS (n : Nat) (x1 : List Ver) (x2 : List Ver) : Option (Bool) :=
 iteO (!decide (((x1.length : Nat) : Int) = ((x2.length : Nat) : Int)))
 (some false)
 (bindO (laws_eqVersionS_L4 x1 x2 n 0) fun v191 =>
 match v191 with
 | (.inl _) => (some false)
 | (.inr _) => (some true)
)

theorem laws_eqVersionS_ok (n : Nat) (x1 : List Ver) (x2 : List Ver) (b97 : Bool) (h : laws_eqVersionS n x1 x2 = some b97) : FOk EE 21 [.one (.e (.sl 0 0 x1.length)), .one (.e (.sl 1 0 x2.length))] [.row .ver x1 false, .row .ver x2 false] (B b97) [.row .ver x1 false, .row .ver x2 false] := by
  unfold laws_eqVersionS at h
  refine FOk_of_W 27 2 Try.func21 rfl rfl (Nat.le_of_ble_eq_true rfl) rfl (fun w X θ => ?_)
  refine W_seq ?_
  refine W_region ?_
  refine WO_step 1 [0, 1] [0, 1] True ⟨[(0, .one (.e (.sl 0 0 x1.length))), (1, .one (.e (.sl 1 0 x2.length)))], [.row .ver x1 false, .row .ver x2 false]⟩ (by kernel_rfl) trivial ?_
  refine WO_nil rfl ?_
  refine thenS_n ?_
  refine W_seq ?_
  refine W_seq ?_
  refine W_region ?_
  refine WO_step 5 [0, 1] [0, 1, 10] (True ∧ (True ∧ (True ∧ True))) ⟨[(0, .one (.e (.sl 0 0 x1.length))), (1, .one (.e (.sl 1 0 x2.length))), (10, B (!decide (((x1.length : Nat) : Int) = ((x2.length : Nat) : Int))))], [.row .ver x1 false, .row .ver x2 false]⟩ (by kernel_rfl) ⟨trivial, trivial, trivial, trivial⟩ ?_
  refine WO_nil rfl ?_
  refine thenS_n ?_
  refine iteO_e h (fun hb99 h => W_true rfl hb99 ?_) (fun hb99 h => W_false rfl hb99 ?_)
  · refine W_seq ?_
    refine W_region ?_
    refine WO_step 1 [0, 1] [4] True ⟨[(4, B false)], [.row .ver x1 false, .row .ver x2 false]⟩ (by kernel_rfl) trivial ?_
    refine WO_nil rfl ?_
    refine thenS_n ?_
    refine W_ret ?_
    refine thenS_r ?_
    cases h
    exact ⟨[0, 1], by kernel_rfl⟩
  · refine W_sub [0, 1] [0, 1] (st' := ⟨[(0, .one (.e (.sl 0 0 x1.length))), (1, .one (.e (.sl 1 0 x2.length)))], [.row .ver x1 false, .row .ver x2 false]⟩) (by kernel_rfl) ?_
    refine W_skip ?_
    refine thenS_n ?_
    refine W_seq ?_
    refine W_seq ?_
    refine W_region ?_
    refine WO_step 1 [0, 1] [0, 1, 5] True ⟨[(0, .one (.e (.sl 0 0 x1.length))), (1, .one (.e (.sl 1 0 x2.length))), (5, I 0)], [.row .ver x1 false, .row .ver x2 false]⟩ (by kernel_rfl) trivial ?_
    refine WO_nil rfl ?_
    refine thenS_n ?_
    refine W_block ?_
    refine W_loop ?_
    refine bindO_e h (fun v191 hv191 h => ?_)
    refine WL_cut (laws_eqVersionS_L4_ok w X θ x1 x2 v191 n 0 hv191) ?_
    rcases v191 with _ | _
    · rintro _ _ ⟨rfl, rfl⟩
      refine blockS_r ?_
      refine thenS_r ?_
      cases h
      exact ⟨[0, 1], by kernel_rfl⟩
    · rintro _ _ ⟨rfl, rfl⟩
      refine blockS_y ?_
      refine thenS_n ?_
      refine W_seq ?_
      refine W_region ?_
      refine WO_step 1 [0, 1] [4] True ⟨[(4, B true)], [.row .ver x1 false, .row .ver x2 false]⟩ (by kernel_rfl) trivial ?_
      refine WO_nil rfl ?_
      refine thenS_n ?_
      refine W_ret ?_
      cases h
      exact ⟨[0, 1], by kernel_rfl⟩

/- laws.FnExactValidVersions -/
def laws_FnExactValidVersions (n : Nat) (x1 : List Ver) : Option (Bool) :=
 bindO (laws_szVersionS x1 1048576) fun i23 =>
 iteO (decide (i23 < 0))
 (some true)
 (bindO (laws_toVersionS n x1) fun x27 =>
 bindO (spec_ValidVersions n x27) fun b29 =>
 bindO (laws_toVersionS n x1) fun x31 =>
 bindO (impl_ValidVersions n x31) fun b33 =>
 iteO (!(b33 == b29))
 (some false)
 (bindO (laws_toVersionS n x1) fun x37 =>
 bindO (laws_eqVersionS n x31 x37) fun b39 =>
 iteO (!b39)
 (some false)
 (some true)))

theorem laws_FnExactValidVersions_ok (n : Nat) (x1 : List Ver) (b22 : Bool) (h : laws_FnExactValidVersions n x1 = some b22) : FOk EE 3 [.one (.e (.sl 0 0 x1.length))] [.row .ver x1 false] (B b22) [.row .ver x1 false] := by
  unfold laws_FnExactValidVersions at h
  refine FOk_of_W 27 1 Try.func3 rfl rfl (Nat.le_of_ble_eq_true rfl) rfl (fun w X θ => ?_)
  refine W_seq ?_
  refine W_region ?_
  refine WO_step 1 [0] [0] True ⟨[(0, .one (.e (.sl 0 0 x1.length)))], [.row .ver x1 false]⟩ (by kernel_rfl) trivial ?_
  refine WO_nil rfl ?_
  refine thenS_n ?_
  refine W_seq ?_
  refine W_region ?_
  refine WO_step 1 [0] [0, 3] True ⟨[(0, .one (.e (.sl 0 0 x1.length))), (3, I 1048576)], [.row .ver x1 false]⟩ (by kernel_rfl) trivial ?_
  refine WO_nil rfl ?_
  refine thenS_n ?_
  refine W_seq ?_
  refine W_region ?_
  refine WO_step 2 [0] [0, 7, 8] True ⟨[(0, .one (.e (.sl 0 0 x1.length))), (7, .one (.e (.sl 0 0 x1.length))), (8, I 1048576)], [.row .ver x1 false]⟩ (by kernel_rfl) trivial ?_
  refine bindO_e h (fun i23 hc24 h => ?_)
  refine WO_call [.ro 0] Try.f17 rfl rfl rfl (by kernel_rfl) rfl rfl (by kernel_rfl) (laws_szVersionS_ok x1 1048576 i23 hc24) (And.intro (And.intro rfl rfl) (trivial)) rfl ?_
  refine WO_step 1 [0] [0, 3] True ⟨[(0, .one (.e (.sl 0 0 x1.length))), (3, I i23)], [.row .ver x1 false]⟩ (by kernel_rfl) trivial ?_
  refine WO_nil rfl ?_
  refine thenS_n ?_
  refine W_seq ?_
  refine W_seq ?_
  refine W_region ?_
  refine WO_step 2 [0] [0, 11] (True ∧ True) ⟨[(0, .one (.e (.sl 0 0 x1.length))), (11, B (decide (i23 < 0)))], [.row .ver x1 false]⟩ (by kernel_rfl) ⟨trivial, trivial⟩ ?_
  refine WO_nil rfl ?_
  refine thenS_n ?_
  refine iteO_e h (fun hb26 h => W_true rfl hb26 ?_) (fun hb26 h => W_false rfl hb26 ?_)
  · refine W_seq ?_
    refine W_region ?_
    refine WO_step 1 [0] [2] True ⟨[(2, B true)], [.row .ver x1 false]⟩ (by kernel_rfl) trivial ?_
    refine WO_nil rfl ?_
    refine thenS_n ?_
    refine W_ret ?_
    refine thenS_r ?_
    cases h
    exact ⟨[0], by kernel_rfl⟩
  · refine W_sub [0] [0] (st' := ⟨[(0, .one (.e (.sl 0 0 x1.length)))], [.row .ver x1 false]⟩) (by kernel_rfl) ?_
    refine W_skip ?_
    refine thenS_n ?_
    refine W_seq ?_
    refine W_region ?_
    refine WO_step 1 [0] [0, 12] True ⟨[(0, .one (.e (.sl 0 0 x1.length))), (12, .one (.e (.sl 0 0 x1.length)))], [.row .ver x1 false]⟩ (by kernel_rfl) trivial ?_
    refine bindO_e h (fun x27 hc28 h => ?_)
    refine WO_call [.ro 0] Try.f19 rfl rfl rfl (by kernel_rfl) rfl rfl (by kernel_rfl) (laws_toVersionS_ok n x1 x27 hc28) (And.intro (And.intro rfl rfl) (trivial)) rfl ?_
    refine WO_sub [0, 1] [0, 13] (st' := ⟨[(0, .one (.e (.sl 0 0 x1.length))), (13, .one (.e (.sl 1 0 x27.length)))], [.row .ver x1 false, .row .ver x27 true]⟩) (by kernel_rfl) ?_
    refine bindO_e h (fun b29 hc30 h => ?_)
    refine WO_call [.ro 1] Try.f18 rfl rfl rfl (by kernel_rfl) rfl rfl (by kernel_rfl) (spec_ValidVersions_ok n x27 b29 hc30) (And.intro (And.intro rfl rfl) (trivial)) rfl ?_
    refine WO_step 1 [0] [0, 4] True ⟨[(0, .one (.e (.sl 0 0 x1.length))), (4, B b29)], [.row .ver x1 false]⟩ (by kernel_rfl) trivial ?_
    refine WO_nil rfl ?_
    refine thenS_n ?_
    refine W_seq ?_
    refine W_region ?_
    refine WO_step 1 [0] [0, 4, 15] True ⟨[(0, .one (.e (.sl 0 0 x1.length))), (4, B b29), (15, .one (.e (.sl 0 0 x1.length)))], [.row .ver x1 false]⟩ (by kernel_rfl) trivial ?_
    refine bindO_e h (fun x31 hc32 h => ?_)
    refine WO_call [.ro 0] Try.f19 rfl rfl rfl (by kernel_rfl) rfl rfl (by kernel_rfl) (laws_toVersionS_ok n x1 x31 hc32) (And.intro (And.intro rfl rfl) (trivial)) rfl ?_
    refine WO_step 1 [0, 1] [0, 4, 5] True ⟨[(0, .one (.e (.sl 0 0 x1.length))), (4, B b29), (5, .one (.e (.sl 1 0 x31.length)))], [.row .ver x1 false, .row .ver x31 true]⟩ (by kernel_rfl) trivial ?_
    refine WO_nil rfl ?_
    refine thenS_n ?_
    refine W_seq ?_
    refine W_region ?_
    refine WO_step 1 [0, 1] [0, 4, 5, 17] True ⟨[(0, .one (.e (.sl 0 0 x1.length))), (4, B b29), (5, .one (.e (.sl 1 0 x31.length))), (17, .one (.e (.sl 1 0 x31.length)))], [.row .ver x1 false, .row .ver x31 true]⟩ (by kernel_rfl) trivial ?_
    refine bindO_e h (fun b33 hc34 h => ?_)
    refine WO_call [.ro 1] Try.f20 rfl rfl rfl (by kernel_rfl) rfl rfl (by kernel_rfl) (impl_ValidVersions_ok n x31 b33 hc34) (And.intro (And.intro rfl rfl) (trivial)) rfl ?_
    refine WO_step 1 [0, 1] [0, 4, 5, 6] True ⟨[(0, .one (.e (.sl 0 0 x1.length))), (4, B b29), (5, .one (.e (.sl 1 0 x31.length))), (6, B b33)], [.row .ver x1 false, .row .ver x31 true]⟩ (by kernel_rfl) trivial ?_
    refine WO_nil rfl ?_
    refine thenS_n ?_
    refine W_seq ?_
    refine W_seq ?_
    refine W_region ?_
    refine WO_step 3 [0, 1] [0, 5, 21] (True ∧ True) ⟨[(0, .one (.e (.sl 0 0 x1.length))), (5, .one (.e (.sl 1 0 x31.length))), (21, B (!(b33 == b29)))], [.row .ver x1 false, .row .ver x31 true]⟩ (by kernel_rfl) ⟨trivial, trivial⟩ ?_
    refine WO_nil rfl ?_
    refine thenS_n ?_
    refine iteO_e h (fun hb36 h => W_true rfl hb36 ?_) (fun hb36 h => W_false rfl hb36 ?_)
    · refine W_seq ?_
      refine W_region ?_
      refine WO_step 1 [0] [2] True ⟨[(2, B false)], [.row .ver x1 false]⟩ (by kernel_rfl) trivial ?_
      refine WO_nil rfl ?_
      refine thenS_n ?_
      refine W_ret ?_
      refine thenS_r ?_
      cases h
      exact ⟨[0], by kernel_rfl⟩
    · refine W_sub [0, 1] [0, 5] (st' := ⟨[(0, .one (.e (.sl 0 0 x1.length))), (5, .one (.e (.sl 1 0 x31.length)))], [.row .ver x1 false, .row .ver x31 true]⟩) (by kernel_rfl) ?_
      refine W_skip ?_
      refine thenS_n ?_
      refine W_seq ?_
      refine W_seq ?_
      refine W_region ?_
      refine WO_step 2 [0, 1] [22, 23] True ⟨[(22, .one (.e (.sl 1 0 x31.length))), (23, .one (.e (.sl 0 0 x1.length)))], [.row .ver x1 false, .row .ver x31 true]⟩ (by kernel_rfl) trivial ?_
      refine bindO_e h (fun x37 hc38 h => ?_)
      refine WO_call [.ro 0] Try.f19 rfl rfl rfl (by kernel_rfl) rfl rfl (by kernel_rfl) (laws_toVersionS_ok n x1 x37 hc38) (And.intro (And.intro rfl rfl) (trivial)) rfl ?_
      refine WO_sub [0, 1, 2] [22, 24] (st' := ⟨[(22, .one (.e (.sl 1 0 x31.length))), (24, .one (.e (.sl 2 0 x37.length)))], [.row .ver x1 false, .row .ver x31 true, .row .ver x37 true]⟩) (by kernel_rfl) ?_
      refine bindO_e h (fun b39 hc40 h => ?_)
      refine WO_call [.ro 1, .ro 2] Try.f21 rfl rfl rfl (by kernel_rfl) rfl rfl (by kernel_rfl) (laws_eqVersionS_ok n x31 x37 b39 hc40) (And.intro (And.intro rfl rfl) (And.intro (And.intro rfl rfl) (trivial))) rfl ?_
      refine WO_step 1 [0] [26] True ⟨[(26, B (!b39))], [.row .ver x1 false]⟩ (by kernel_rfl) trivial ?_
      refine WO_nil rfl ?_
      refine thenS_n ?_
      refine iteO_e h (fun hb42 h => W_true rfl hb42 ?_) (fun hb42 h => W_false rfl hb42 ?_)
      · refine W_seq ?_
        refine W_region ?_
        refine WO_step 1 [0] [2] True ⟨[(2, B false)], [.row .ver x1 false]⟩ (by kernel_rfl) trivial ?_
        refine WO_nil rfl ?_
        refine thenS_n ?_
        refine W_ret ?_
        refine thenS_r ?_
        cases h
        exact ⟨[0], by kernel_rfl⟩
      · refine W_sub [0] [] (st' := ⟨[], [.row .ver x1 false]⟩) (by kernel_rfl) ?_
        refine W_skip ?_
        refine thenS_n ?_
        refine W_seq ?_
        refine W_region ?_
        refine WO_step 1 [0] [2] True ⟨[(2, B true)], [.row .ver x1 false]⟩ (by kernel_rfl) trivial ?_
        refine WO_nil rfl ?_
        refine thenS_n ?_
        refine W_ret ?_
        cases h
        exact ⟨[0], by kernel_rfl⟩

end Go.Proofs.Ytnaogmahijgibaa

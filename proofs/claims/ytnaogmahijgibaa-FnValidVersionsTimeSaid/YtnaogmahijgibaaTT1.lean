import Derived.Test.YtnaogmahijgibaaTLt
import Derived.Test.YtnaogmahijgibaaTLxa
import Derived.Test.YtnaogmahijgibaaProg
namespace Go.Proofs.Ytnaogmahijgibaa
open Go
set_option linter.unusedVariables false
noncomputable def EE : Env := ⟨Try.prog, fun _ => none, fun t => match t with | 3 => some .int | 5 => some .u8 | 33 => some .ver | 43 => some .ver | _ => none⟩
/- laws.szVersionS -/
def laws_szVersionS (x1 : List Ver) (i2 : Int) : Option (Int) :=
 iteO (decide ((w64 (i2 - ((x1.length : Nat) : Int))) < 0))
 (some (-1))
 (some (w64 (i2 - ((x1.length : Nat) : Int))))

theorem laws_szVersionS_ok (x1 : List Ver) (i2 : Int) (i5 : Int) (h : laws_szVersionS x1 i2 = some i5) : FOk EE 17 [.one (.e (.sl 0 0 x1.length)), I i2] [.row .ver x1 false] (I i5) [.row .ver x1 false] := by
  unfold laws_szVersionS at h
  refine FOk_of_W 12 1 Try.func17 rfl rfl (Nat.le_of_ble_eq_true rfl) rfl (fun w X θ => ?_)
  refine W_seq ?_
  refine W_region ?_
  refine WO_step 1 [0] [0, 1] True ⟨[(0, .one (.e (.sl 0 0 x1.length))), (1, I i2)], [.row .ver x1 false]⟩ (by kernel_rfl) trivial ?_
  refine WO_nil rfl ?_
  refine thenS_n ?_
  refine W_seq ?_
  refine W_region ?_
  refine WO_step 5 [0] [1] (True ∧ (True ∧ True)) ⟨[(1, I (w64 (i2 - ((x1.length : Nat) : Int))))], [.row .ver x1 false]⟩ (by kernel_rfl) ⟨trivial, trivial, trivial⟩ ?_
  refine WO_nil rfl ?_
  refine thenS_n ?_
  refine W_seq ?_
  refine W_seq ?_
  refine W_region ?_
  refine WO_step 2 [0] [1, 10] (True ∧ True) ⟨[(1, I (w64 (i2 - ((x1.length : Nat) : Int)))), (10, B (decide ((w64 (i2 - ((x1.length : Nat) : Int))) < 0)))], [.row .ver x1 false]⟩ (by kernel_rfl) ⟨trivial, trivial⟩ ?_
  refine WO_nil rfl ?_
  refine thenS_n ?_
  refine iteO_e h (fun hb7 h => W_true rfl hb7 ?_) (fun hb7 h => W_false rfl hb7 ?_)
  · refine W_seq ?_
    refine W_region ?_
    refine WO_step 1 [0] [4] True ⟨[(4, I (-1))], [.row .ver x1 false]⟩ (by kernel_rfl) trivial ?_
    refine WO_nil rfl ?_
    refine thenS_n ?_
    refine W_ret ?_
    refine thenS_r ?_
    cases h
    exact ⟨[0], True, by kernel_rfl, trivial⟩
  · refine W_sub [0] [1] (st' := ⟨[(1, I (w64 (i2 - ((x1.length : Nat) : Int))))], [.row .ver x1 false]⟩) (by kernel_rfl) ?_
    refine W_skip ?_
    refine thenS_n ?_
    refine W_seq ?_
    refine W_region ?_
    refine WO_step 2 [0] [4] True ⟨[(4, I (w64 (i2 - ((x1.length : Nat) : Int))))], [.row .ver x1 false]⟩ (by kernel_rfl) trivial ?_
    refine WO_nil rfl ?_
    refine thenS_n ?_
    refine W_ret ?_
    cases h
    exact ⟨[0], True, by kernel_rfl, trivial⟩

/- laws.toVersion -/
def laws_toVersion (x1 : Ver) : Option (Int × Int × Int) :=
 some (x1.node, x1.value, x1.tm)

theorem laws_toVersion_ok (x1 : Ver) (i2 : Int) (i3 : Int) (i4 : Int) (h : laws_toVersion x1 = some (i2, i3, i4)) : FOk EE 30 [AGG [cI x1.node, cI x1.value, cI x1.tm]] [] (AGG [cI i2, cI i3, cI i4]) [] := by
  unfold laws_toVersion at h
  refine FOk_of_W 14 0 Try.func30 rfl rfl (Nat.le_of_ble_eq_true rfl) rfl (fun w X θ => ?_)
  refine W_seq ?_
  refine W_region ?_
  refine WO_step 2 [0, 1] [1, 2] (True ∧ (True ∧ True)) ⟨[(1, .one (.e (.p 0 0))), (2, .one (.e (.p 1 0)))], [.cells [cI x1.node, cI x1.value, cI x1.tm], .cells [cI 0, cI 0, cI 0]]⟩ (by kernel_rfl) ⟨trivial, trivial, trivial⟩ ?_
  refine WO_nil rfl ?_
  refine thenS_n ?_
  refine W_seq ?_
  refine W_region ?_
  refine WO_step 1 [0, 1, 2] [1, 2, 3] (True ∧ True) ⟨[(1, .one (.e (.p 0 0))), (2, .one (.e (.p 1 0))), (3, .one (.e (.p 2 0)))], [.cells [cI x1.node, cI x1.value, cI x1.tm], .cells [cI 0, cI 0, cI 0], .cells [cI 0, cI 0, cI 0]]⟩ (by kernel_rfl) ⟨trivial, trivial⟩ ?_
  refine WO_nil rfl ?_
  refine thenS_n ?_
  refine W_seq ?_
  refine W_region ?_
  refine WO_step 4 [0, 1, 2] [1, 2, 3] (True ∧ (True ∧ True)) ⟨[(1, .one (.e (.p 0 0))), (2, .one (.e (.p 1 0))), (3, .one (.e (.p 2 0)))], [.cells [cI x1.node, cI x1.value, cI x1.tm], .cells [cI 0, cI 0, cI 0], .cells [cI x1.node, cI 0, cI 0]]⟩ (by kernel_rfl) ⟨trivial, trivial, trivial⟩ ?_
  refine WO_nil rfl ?_
  refine thenS_n ?_
  refine W_seq ?_
  refine W_region ?_
  refine WO_step 4 [0, 1, 2] [1, 2, 3] (True ∧ (True ∧ True)) ⟨[(1, .one (.e (.p 0 0))), (2, .one (.e (.p 1 0))), (3, .one (.e (.p 2 0)))], [.cells [cI x1.node, cI x1.value, cI x1.tm], .cells [cI 0, cI 0, cI 0], .cells [cI x1.node, cI x1.value, cI 0]]⟩ (by kernel_rfl) ⟨trivial, trivial, trivial⟩ ?_
  refine WO_nil rfl ?_
  refine thenS_n ?_
  refine W_seq ?_
  refine W_region ?_
  refine WO_step 4 [1, 2] [2, 3] (True ∧ (True ∧ True)) ⟨[(2, .one (.e (.p 0 0))), (3, .one (.e (.p 1 0)))], [.cells [cI 0, cI 0, cI 0], .cells [cI x1.node, cI x1.value, cI x1.tm]]⟩ (by kernel_rfl) ⟨trivial, trivial, trivial⟩ ?_
  refine WO_nil rfl ?_
  refine thenS_n ?_
  refine W_seq ?_
  refine W_region ?_
  refine WO_step 2 [0] [2] (True ∧ (True ∧ True)) ⟨[(2, .one (.e (.p 0 0)))], [.cells [cI x1.node, cI x1.value, cI x1.tm]]⟩ (by kernel_rfl) ⟨trivial, trivial, trivial⟩ ?_
  refine WO_nil rfl ?_
  refine thenS_n ?_
  refine W_ret ?_
  cases h
  exact ⟨[], True, by kernel_rfl, trivial⟩

/- laws.toVersionS -/
def laws_toVersionS_L4 (x1 : List Ver) : Nat → (List Ver) → Int → Option ((List Ver))
| 0, _, _ => none
| n + 1, x186, i187 =>
 iteO (decide (i187 < ((x1.length : Nat) : Int)))
 (guardO (0 ≤ i187 ∧ i187 < ((x1.length : Nat) : Int)) <|
 bindO (laws_toVersion (x1.getD i187.toNat dver)) fun (i218, i219, i220) =>
 guardO (0 ≤ i187 ∧ i187 < ((x186.length : Nat) : Int)) <|
 laws_toVersionS_L4 x1 n (x186.set i187.toNat (⟨i218, i219, i220⟩ : Ver)) (w64 (i187 + 1)))
 (some x186)

theorem laws_toVersionS_L4_ok (w : World) (X : Nat → Prop) (θ : List Loc) (x1 : List Ver) (x206 : (List Ver)) : ∀ (n : Nat) (x186 : List Ver) (i187 : Int), laws_toVersionS_L4 x1 n x186 i187 = some x206 → WL EE ⟨w, X, θ, 23, 1⟩ (subC [1, 1, 0, 1, 4, 4] (bodyC Try.f19)) (fun (e : Exit) (s : St) => e = .exit 0 ∧ s = ⟨[(3, .one (.e (.sl 1 0 x206.length)))], [.row .ver x1 false, .row .ver x206 true]⟩) ⟨[(0, .one (.e (.sl 0 0 x1.length))), (3, .one (.e (.sl 1 0 x186.length))), (4, I i187)], [.row .ver x1 false, .row .ver x186 true]⟩ := by
  intro n
  induction n with
  | zero => intro _ _ h; exact none_e h
  | succ n ih =>
    intro x186 i187 h
    rw [laws_toVersionS_L4] at h
    refine WL_round ?_
    refine W_seq ?_
    refine W_seq ?_
    refine W_region ?_
    refine WO_step 4 [0, 1] [0, 3, 4, 11] (True ∧ (True ∧ True)) ⟨[(0, .one (.e (.sl 0 0 x1.length))), (3, .one (.e (.sl 1 0 x186.length))), (4, I i187), (11, B (decide (i187 < ((x1.length : Nat) : Int))))], [.row .ver x1 false, .row .ver x186 true]⟩ (by kernel_rfl) ⟨trivial, trivial, trivial⟩ ?_
    refine WO_nil rfl ?_
    refine thenS_n ?_
    refine iteO_e h (fun hb209 h => W_true rfl hb209 ?_) (fun hb209 h => W_false rfl hb209 ?_)
    · refine W_sub [0, 1] [0, 3, 4] (st' := ⟨[(0, .one (.e (.sl 0 0 x1.length))), (3, .one (.e (.sl 1 0 x186.length))), (4, I i187)], [.row .ver x1 false, .row .ver x186 true]⟩) (by kernel_rfl) ?_
      refine W_skip ?_
      refine thenS_n ?_
      refine W_seq ?_
      refine W_block ?_
      refine W_region ?_
      refine guardO_e h (fun hg217 h => ?_)
      refine WO_step 6 [0, 1] [0, 3, 4, 14, 15, 19] ((0 ≤ i187 ∧ i187 < ((x1.length : Nat) : Int)) ∧ (True ∧ True)) ⟨[(0, .one (.e (.sl 0 0 x1.length))), (3, .one (.e (.sl 1 0 x186.length))), (4, I i187), (14, .one (.e (.sl 1 0 x186.length))), (15, I i187), (19, AGG [cI ((x1.getD i187.toNat dver).node), cI ((x1.getD i187.toNat dver).value), cI ((x1.getD i187.toNat dver).tm)])], [.row .ver x1 false, .row .ver x186 true]⟩ (by kernel_rfl) ⟨hg217, trivial, trivial⟩ ?_
      refine bindO_e h (fun v223 hc221 h => ?_)
      obtain ⟨i218, i219, i220⟩ := v223
      refine WO_call [] Try.f30 rfl rfl rfl (by kernel_rfl) rfl rfl (by kernel_rfl) (laws_toVersion_ok (x1.getD i187.toNat dver) i218 i219 i220 hc221) (trivial) rfl ?_
      refine guardO_e h (fun hg222 h => ?_)
      refine WO_step 2 [0, 1] [0, 3, 4] ((0 ≤ i187 ∧ i187 < ((x186.length : Nat) : Int)) ∧ (True ∧ True)) ⟨[(0, .one (.e (.sl 0 0 x1.length))), (3, .one (.e (.sl 1 0 x186.length))), (4, I i187)], [.row .ver x1 false, .row .ver (x186.set i187.toNat (⟨i218, i219, i220⟩ : Ver)) true]⟩ (by kernel_rfl) ⟨hg222, trivial, trivial⟩ ?_
      refine WO_eq (st' := ⟨[(0, .one (.e (.sl 0 0 x1.length))), (3, .one (.e (.sl 1 0 ((x186.set i187.toNat (⟨i218, i219, i220⟩ : Ver)).length)))), (4, I i187)], [.row .ver x1 false, .row .ver (x186.set i187.toNat (⟨i218, i219, i220⟩ : Ver)) true]⟩) (by simp only [List.length_set]) ?_
      refine WO_nil rfl ?_
      refine blockS_n ?_
      refine thenS_n ?_
      refine W_region ?_
      refine WO_step 3 [0, 1] [0, 3, 4] (True ∧ True) ⟨[(0, .one (.e (.sl 0 0 x1.length))), (3, .one (.e (.sl 1 0 ((x186.set i187.toNat (⟨i218, i219, i220⟩ : Ver)).length)))), (4, I (w64 (i187 + 1)))], [.row .ver x1 false, .row .ver (x186.set i187.toNat (⟨i218, i219, i220⟩ : Ver)) true]⟩ (by kernel_rfl) ⟨trivial, trivial⟩ ?_
      refine WO_nil rfl ?_
      refine thenS_n ?_
      exact ih _ _ h
    · refine W_sub [0, 1] [3] (st' := ⟨[(3, .one (.e (.sl 1 0 x186.length)))], [.row .ver x1 false, .row .ver x186 true]⟩) (by kernel_rfl) ?_
      refine W_exit ?_
      refine thenS_e ?_
      refine thenS_e ?_
      cases h
      exact And.intro rfl rfl

def laws_toVersionS (n : Nat) (x1 : List Ver) : Option ((List Ver)) :=
 guardO ((((x1.length : Nat) : Int) : Int) = ((x1.length : Nat) : Int) ∧ 0 ≤ ((x1.length : Nat) : Int) ∧ ((x1.length : Nat) : Int) ≤ 1099511627776) <|
 bindO (laws_toVersionS_L4 x1 n (List.replicate (((x1.length : Nat) : Int).toNat) dver) 0) fun x206 =>
 some x206

theorem laws_toVersionS_ok (n : Nat) (x1 : List Ver) (x113 : List Ver) (h : laws_toVersionS n x1 = some x113) : FOk EE 19 [.one (.e (.sl 0 0 x1.length))] [.row .ver x1 false] (.one (.e (.sl 1 0 x113.length))) [.row .ver x1 false, .row .ver x113 true] := by
  unfold laws_toVersionS at h
  refine FOk_of_W 23 1 Try.func19 rfl rfl (Nat.le_of_ble_eq_true rfl) rfl (fun w X θ => ?_)
  refine W_seq ?_
  refine W_region ?_
  refine WO_step 1 [0] [0] True ⟨[(0, .one (.e (.sl 0 0 x1.length)))], [.row .ver x1 false]⟩ (by kernel_rfl) trivial ?_
  refine WO_nil rfl ?_
  refine thenS_n ?_
  refine W_seq ?_
  refine W_region ?_
  refine guardO_e h (fun hg114 h => ?_)
  refine WO_step 4 [0, 1] [0, 3] (True ∧ (((((x1.length : Nat) : Int) : Int) = ((x1.length : Nat) : Int) ∧ 0 ≤ ((x1.length : Nat) : Int) ∧ ((x1.length : Nat) : Int) ≤ 1099511627776) ∧ True)) ⟨[(0, .one (.e (.sl 0 0 x1.length))), (3, .one (.e (.sl 1 0 ((List.replicate (((x1.length : Nat) : Int).toNat) dver).length))))], [.row .ver x1 false, .row .ver (List.replicate (((x1.length : Nat) : Int).toNat) dver) true]⟩ (by kernel_rfl) ⟨trivial, hg114, trivial⟩ ?_
  refine WO_nil rfl ?_
  refine thenS_n ?_
  refine W_seq ?_
  refine W_seq ?_
  refine W_region ?_
  refine WO_step 1 [0, 1] [0, 3, 4] True ⟨[(0, .one (.e (.sl 0 0 x1.length))), (3, .one (.e (.sl 1 0 ((List.replicate (((x1.length : Nat) : Int).toNat) dver).length)))), (4, I 0)], [.row .ver x1 false, .row .ver (List.replicate (((x1.length : Nat) : Int).toNat) dver) true]⟩ (by kernel_rfl) trivial ?_
  refine WO_nil rfl ?_
  refine thenS_n ?_
  refine W_block ?_
  refine W_loop ?_
  refine bindO_e h (fun x206 hx206 h => ?_)
  refine WL_cut (laws_toVersionS_L4_ok w X θ x1 x206 n (List.replicate (((x1.length : Nat) : Int).toNat) dver) 0 hx206) ?_
  rintro _ _ ⟨rfl, rfl⟩
  refine blockS_y ?_
  refine thenS_n ?_
  refine W_seq ?_
  refine W_region ?_
  refine WO_step 2 [0, 1] [2] True ⟨[(2, .one (.e (.sl 1 0 x206.length)))], [.row .ver x1 false, .row .ver x206 true]⟩ (by kernel_rfl) trivial ?_
  refine WO_nil rfl ?_
  refine thenS_n ?_
  refine W_ret ?_
  cases h
  exact ⟨[0, 1], True, by kernel_rfl, trivial⟩

/- spec.inRange -/
def spec_inRange (i1 : Int) (i2 : Int) (i3 : Int) : Bool :=
((decide (i2 ≤ i1)) && (decide (i1 ≤ i3)))

theorem spec_inRange_ok (i1 : Int) (i2 : Int) (i3 : Int) : FOk EE 47 [I i1, I i2, I i3] [] (B (spec_inRange i1 i2 i3)) [] := by
  refine FOk_of_W 15 0 Try.func47 rfl rfl (Nat.le_of_ble_eq_true rfl) rfl (fun w X θ => ?_)
  refine W_seq ?_
  refine W_region ?_
  refine WO_step 1 [] [0, 1, 2] True ⟨[(0, I i1), (1, I i2), (2, I i3)], []⟩ (by kernel_rfl) trivial ?_
  refine WO_nil rfl ?_
  refine thenS_n ?_
  refine W_seq ?_
  refine W_region ?_
  refine WO_step 4 [] [0, 2, 10] (True ∧ True) ⟨[(0, I i1), (2, I i3), (10, B (decide (i2 ≤ i1)))], []⟩ (by kernel_rfl) ⟨trivial, trivial⟩ ?_
  refine WO_thru ⟨[(6, B ((decide (i2 ≤ i1)) && (decide (i1 ≤ i3))))], []⟩ ?_ ?_
  · refine WO_if 10 rfl (fun hb10 => ?_) (fun hb10 => ?_)
    · refine WO_step 5 [] [6] (True ∧ True) ⟨[(6, B (decide (i1 ≤ i3)))], []⟩ (by kernel_rfl) ⟨trivial, trivial⟩ ?_
      exact WO_nil rfl ⟨rfl, by first | rfl | (rw [hb10]; first | done | rfl)⟩
    · refine WO_step 5 [] [6] True ⟨[(6, B false)], []⟩ (by kernel_rfl) trivial ?_
      exact WO_nil rfl ⟨rfl, by first | rfl | (rw [hb10]; first | done | rfl)⟩
  · refine thenS_n ?_
    refine W_ret ?_
    exact ⟨[], True, by kernel_rfl, trivial⟩

/- spec.validVersions -/
def spec_validVersions_L52 (x1 : List Ver) (i2855 : Int) : Nat → Int → Option ((Unit) ⊕ (Unit))
| 0, _ => none
| n + 1, i3382 =>
 iteO (decide (i3382 < i2855))
 (guardO (0 ≤ i3382 ∧ i3382 < ((x1.length : Nat) : Int)) <|
 guardO (0 ≤ i2855 ∧ i2855 < ((x1.length : Nat) : Int)) <|
 bindO (iteO (decide (((x1.getD i3382.toNat dver).node) = ((x1.getD i2855.toNat dver).node)))
 (guardO (0 ≤ i3382 ∧ i3382 < ((x1.length : Nat) : Int)) <|
 guardO (0 ≤ i2855 ∧ i2855 < ((x1.length : Nat) : Int)) <|
 some (decide (((x1.getD i3382.toNat dver).tm) = ((x1.getD i2855.toNat dver).tm))))
 (some false)) fun b3421 =>
 iteO b3421
 (some (.inl ()))
 (spec_validVersions_L52 x1 i2855 n (w64 (i3382 + 1))))
 (some (.inr ()))

theorem spec_validVersions_L52_ok (w : World) (X : Nat → Prop) (θ : List Loc) (x1 : List Ver) (i2855 : Int) (v : (Unit) ⊕ (Unit)) : ∀ (n : Nat) (i3382 : Int), spec_validVersions_L52 x1 i2855 n i3382 = some v → WL EE ⟨w, X, θ, 86, 1⟩ (subC [1, 0, 1, 4, 4, 1, 0, 4, 1, 1, 4, 4] (bodyC Try.f36)) (fun (e : Exit) (s : St) => (match v with | (.inl _) => e = .ret ∧ s = ⟨[(2, B false)], [.row .ver x1 false]⟩ | (.inr _) => e = .exit 2 ∧ s = ⟨[(0, .one (.e (.sl 0 0 x1.length))), (3, I i2855)], [.row .ver x1 false]⟩ : Prop)) ⟨[(0, .one (.e (.sl 0 0 x1.length))), (3, I i2855), (4, I i3382)], [.row .ver x1 false]⟩ := by
  intro n
  induction n with
  | zero => intro _ h; exact none_e h
  | succ n ih =>
    intro i3382 h
    rw [spec_validVersions_L52] at h
    refine WL_round ?_
    refine W_seq ?_
    refine W_seq ?_
    refine W_region ?_
    refine WO_step 3 [0] [0, 3, 4, 56] (True ∧ True) ⟨[(0, .one (.e (.sl 0 0 x1.length))), (3, I i2855), (4, I i3382), (56, B (decide (i3382 < i2855)))], [.row .ver x1 false]⟩ (by kernel_rfl) ⟨trivial, trivial⟩ ?_
    refine WO_nil rfl ?_
    refine thenS_n ?_
    refine iteO_e h (fun hb3406 h => W_true rfl hb3406 ?_) (fun hb3406 h => W_false rfl hb3406 ?_)
    · refine W_sub [0] [0, 3, 4] (st' := ⟨[(0, .one (.e (.sl 0 0 x1.length))), (3, I i2855), (4, I i3382)], [.row .ver x1 false]⟩) (by kernel_rfl) ?_
      refine W_skip ?_
      refine thenS_n ?_
      refine W_seq ?_
      refine W_block ?_
      refine W_seq ?_
      refine guardO_e h (fun hg3416 h => ?_)
      refine guardO_e h (fun hg3417 h => ?_)
      refine bindO_e h (fun b3421 hv3422 h => ?_)
      refine W_cut (Q' := fun (e : Exit) (s : St) => e = .normal ∧ s = ⟨[(0, .one (.e (.sl 0 0 x1.length))), (3, I i2855), (4, I i3382), (82, B b3421)], [.row .ver x1 false]⟩) ?_ ?_
      · refine iteO_e hv3422 (fun hb3418 hv3422 => ?_) (fun hb3418 hv3422 => ?_)
        · refine guardO_e hv3422 (fun hg3419 hv3422 => ?_)
          refine guardO_e hv3422 (fun hg3420 hv3422 => ?_)
          refine W_draw [] true (by kernel_rfl) (by kernel_rfl) ?_
          refine WD_takeK [0, 1, 2, 3, 4, 5, 6, 7, 8, 9, 10, 11] [0, 3, 4, 70] [0, 3, 4, 70] (φ := ((0 ≤ i3382 ∧ i3382 < ((x1.length : Nat) : Int)) ∧ (0 ≤ i3382 ∧ i3382 < ((x1.length : Nat) : Int)) ∧ (True ∧ True ∧ ((0 ≤ i2855 ∧ i2855 < ((x1.length : Nat) : Int)) ∧ (0 ≤ i2855 ∧ i2855 < ((x1.length : Nat) : Int)) ∧ (True ∧ True ∧ (True ∧ True ∧ True)))))) (ls' := #[true, true, true, true, true, true, true, true, true, true, true, true, false, false, false, false, false, false, false, false, false, false, false, false]) (Ts' := [(0, .one (.e (.sl 0 0 x1.length))), (3, I i2855), (4, I i3382), (70, B (decide (((x1.getD i3382.toNat dver).node) = ((x1.getD i2855.toNat dver).node))))]) (st' := ⟨[(0, .one (.e (.sl 0 0 x1.length))), (3, I i2855), (4, I i3382), (70, B (decide (((x1.getD i3382.toNat dver).node) = ((x1.getD i2855.toNat dver).node))))], [.row .ver x1 false]⟩) (n2 := 12) (by kernel_rfl) ⟨hg3416, hg3416, trivial, trivial, hg3417, hg3417, trivial, trivial, trivial, trivial, trivial⟩ rfl ?_
          refine WD_known 70 true rfl rfl hb3418 ?_
          refine WD_takeK [12, 13, 14, 15, 16, 17, 18, 19, 20, 21, 22, 23] [0, 3, 4, 82] [0, 3, 4, 82] (φ := ((0 ≤ i3382 ∧ i3382 < ((x1.length : Nat) : Int)) ∧ (0 ≤ i3382 ∧ i3382 < ((x1.length : Nat) : Int)) ∧ (True ∧ True ∧ ((0 ≤ i2855 ∧ i2855 < ((x1.length : Nat) : Int)) ∧ (0 ≤ i2855 ∧ i2855 < ((x1.length : Nat) : Int)) ∧ (True ∧ True ∧ (True ∧ True ∧ True)))))) (ls' := #[true, true, true, true, true, true, true, true, true, true, true, true, true, true, true, true, true, true, true, true, true, true, true, true]) (Ts' := [(0, .one (.e (.sl 0 0 x1.length))), (3, I i2855), (4, I i3382), (82, B (decide (((x1.getD i3382.toNat dver).tm) = ((x1.getD i2855.toNat dver).tm))))]) (st' := ⟨[(0, .one (.e (.sl 0 0 x1.length))), (3, I i2855), (4, I i3382), (82, B (decide (((x1.getD i3382.toNat dver).tm) = ((x1.getD i2855.toNat dver).tm))))], [.row .ver x1 false]⟩) (n2 := 0) (by kernel_rfl) ⟨hg3419, hg3419, trivial, trivial, hg3420, hg3420, trivial, trivial, trivial, trivial, trivial⟩ rfl ?_
          exact WD_done [0] [0, 3, 4, 82] (st' := ⟨[(0, .one (.e (.sl 0 0 x1.length))), (3, I i2855), (4, I i3382), (82, B (decide (((x1.getD i3382.toNat dver).tm) = ((x1.getD i2855.toNat dver).tm))))], [.row .ver x1 false]⟩) (by kernel_rfl) (by kernel_rfl) (And.intro rfl (by cases hv3422; rfl))
        · refine W_draw [] true (by kernel_rfl) (by kernel_rfl) ?_
          refine WD_takeK [0, 1, 2, 3, 4, 5, 6, 7, 8, 9, 10, 11] [0, 3, 4, 70] [0, 3, 4, 70] (φ := ((0 ≤ i3382 ∧ i3382 < ((x1.length : Nat) : Int)) ∧ (0 ≤ i3382 ∧ i3382 < ((x1.length : Nat) : Int)) ∧ (True ∧ True ∧ ((0 ≤ i2855 ∧ i2855 < ((x1.length : Nat) : Int)) ∧ (0 ≤ i2855 ∧ i2855 < ((x1.length : Nat) : Int)) ∧ (True ∧ True ∧ (True ∧ True ∧ True)))))) (ls' := #[true, true, true, true, true, true, true, true, true, true, true, true, false, false, false, false, false, false, false, false, false, false, false, false]) (Ts' := [(0, .one (.e (.sl 0 0 x1.length))), (3, I i2855), (4, I i3382), (70, B (decide (((x1.getD i3382.toNat dver).node) = ((x1.getD i2855.toNat dver).node))))]) (st' := ⟨[(0, .one (.e (.sl 0 0 x1.length))), (3, I i2855), (4, I i3382), (70, B (decide (((x1.getD i3382.toNat dver).node) = ((x1.getD i2855.toNat dver).node))))], [.row .ver x1 false]⟩) (n2 := 12) (by kernel_rfl) ⟨hg3416, hg3416, trivial, trivial, hg3417, hg3417, trivial, trivial, trivial, trivial, trivial⟩ rfl ?_
          refine WD_known 70 false rfl rfl hb3418 ?_
          refine WD_takeK [12, 13, 14, 15, 16, 17, 18, 19, 20, 21, 22, 23] [0, 3, 4, 82] [0, 3, 4, 82] (φ := True) (ls' := #[true, true, true, true, true, true, true, true, true, true, true, true, true, true, true, true, true, true, true, true, true, true, true, true]) (Ts' := [(0, .one (.e (.sl 0 0 x1.length))), (3, I i2855), (4, I i3382), (82, B false)]) (st' := ⟨[(0, .one (.e (.sl 0 0 x1.length))), (3, I i2855), (4, I i3382), (82, B false)], [.row .ver x1 false]⟩) (n2 := 0) (by kernel_rfl) trivial rfl ?_
          exact WD_done [0] [0, 3, 4, 82] (st' := ⟨[(0, .one (.e (.sl 0 0 x1.length))), (3, I i2855), (4, I i3382), (82, B false)], [.row .ver x1 false]⟩) (by kernel_rfl) (by kernel_rfl) (And.intro rfl (by cases hv3422; rfl))
      · rintro _ _ ⟨rfl, rfl⟩
        refine thenS_n ?_
        refine iteO_e h (fun hb3424 h => W_true rfl hb3424 ?_) (fun hb3424 h => W_false rfl hb3424 ?_)
        · refine W_seq ?_
          refine W_region ?_
          refine WO_step 1 [0] [2] True ⟨[(2, B false)], [.row .ver x1 false]⟩ (by kernel_rfl) trivial ?_
          refine WO_nil rfl ?_
          refine thenS_n ?_
          refine W_ret ?_
          refine blockS_r ?_
          refine thenS_r ?_
          refine thenS_r ?_
          cases h
          exact And.intro rfl rfl
        · refine W_sub [0] [0, 3, 4] (st' := ⟨[(0, .one (.e (.sl 0 0 x1.length))), (3, I i2855), (4, I i3382)], [.row .ver x1 false]⟩) (by kernel_rfl) ?_
          refine W_skip ?_
          refine blockS_n ?_
          refine thenS_n ?_
          refine W_region ?_
          refine WO_step 3 [0] [0, 3, 4] (True ∧ True) ⟨[(0, .one (.e (.sl 0 0 x1.length))), (3, I i2855), (4, I (w64 (i3382 + 1)))], [.row .ver x1 false]⟩ (by kernel_rfl) ⟨trivial, trivial⟩ ?_
          refine WO_nil rfl ?_
          refine thenS_n ?_
          exact ih _ h
    · refine W_sub [0] [0, 3] (st' := ⟨[(0, .one (.e (.sl 0 0 x1.length))), (3, I i2855)], [.row .ver x1 false]⟩) (by kernel_rfl) ?_
      refine W_exit ?_
      refine thenS_e ?_
      refine thenS_e ?_
      cases h
      exact And.intro rfl rfl

def spec_validVersions_L48 (x1 : List Ver) : Nat → Int → Option ((Unit) ⊕ (Unit))
| 0, _ => none
| n + 1, i2855 =>
 iteO (decide (i2855 < ((x1.length : Nat) : Int)))
 (guardO (0 ≤ i2855 ∧ i2855 < ((x1.length : Nat) : Int)) <|
 bindO (iteO (!(spec_inRange ((x1.getD i2855.toNat dver).node) 0 11))
 (some true)
 (guardO (0 ≤ i2855 ∧ i2855 < ((x1.length : Nat) : Int)) <|
 iteO (!(spec_inRange ((x1.getD i2855.toNat dver).value) (-1000) 1000))
 (some true)
 (guardO (0 ≤ i2855 ∧ i2855 < ((x1.length : Nat) : Int)) <|
 iteO (!(spec_inRange ((x1.getD i2855.toNat dver).tm) 0 100))
 (some true)
 (iteO (decide (0 < i2855))
 (guardO (0 ≤ i2855 ∧ i2855 < ((x1.length : Nat) : Int)) <|
 guardO (0 ≤ (w64 (i2855 - 1)) ∧ (w64 (i2855 - 1)) < ((x1.length : Nat) : Int)) <|
 some (decide (((x1.getD i2855.toNat dver).tm) < ((x1.getD ((w64 (i2855 - 1)).toNat) dver).tm))))
 (some false))))) fun b3294 =>
 iteO b3294
 (some (.inl ()))
 (bindO (spec_validVersions_L52 x1 i2855 n 0) fun v3425 =>
 match v3425 with
 | (.inl _) => (some (.inl ()))
 | (.inr _) => (spec_validVersions_L48 x1 n (w64 (i2855 + 1)))
))
 (some (.inr ()))

theorem spec_validVersions_L48_ok (w : World) (X : Nat → Prop) (θ : List Loc) (x1 : List Ver) (v : (Unit) ⊕ (Unit)) : ∀ (n : Nat) (i2855 : Int), spec_validVersions_L48 x1 n i2855 = some v → WL EE ⟨w, X, θ, 86, 1⟩ (subC [1, 0, 1, 4, 4] (bodyC Try.f36)) (fun (e : Exit) (s : St) => (match v with | (.inl _) => e = .ret ∧ s = ⟨[(2, B false)], [.row .ver x1 false]⟩ | (.inr _) => e = .exit 0 ∧ s = ⟨[(0, .one (.e (.sl 0 0 x1.length)))], [.row .ver x1 false]⟩ : Prop)) ⟨[(0, .one (.e (.sl 0 0 x1.length))), (3, I i2855)], [.row .ver x1 false]⟩ := by
  intro n
  induction n with
  | zero => intro _ h; exact none_e h
  | succ n ih =>
    intro i2855 h
    rw [spec_validVersions_L48] at h
    refine WL_round ?_
    refine W_seq ?_
    refine W_seq ?_
    refine W_region ?_
    refine WO_step 4 [0] [0, 3, 8] (True ∧ (True ∧ True)) ⟨[(0, .one (.e (.sl 0 0 x1.length))), (3, I i2855), (8, B (decide (i2855 < ((x1.length : Nat) : Int))))], [.row .ver x1 false]⟩ (by kernel_rfl) ⟨trivial, trivial, trivial⟩ ?_
    refine WO_nil rfl ?_
    refine thenS_n ?_
    refine iteO_e h (fun hb3143 h => W_true rfl hb3143 ?_) (fun hb3143 h => W_false rfl hb3143 ?_)
    · refine W_sub [0] [0, 3] (st' := ⟨[(0, .one (.e (.sl 0 0 x1.length))), (3, I i2855)], [.row .ver x1 false]⟩) (by kernel_rfl) ?_
      refine W_skip ?_
      refine thenS_n ?_
      refine W_seq ?_
      refine W_block ?_
      refine W_seq ?_
      refine W_seq ?_
      refine guardO_e h (fun hg3285 h => ?_)
      refine bindO_e h (fun b3294 hv3295 h => ?_)
      refine W_cut (Q' := fun (e : Exit) (s : St) => e = .normal ∧ s = ⟨[(0, .one (.e (.sl 0 0 x1.length))), (3, I i2855), (53, B b3294)], [.row .ver x1 false]⟩) ?_ ?_
      · refine iteO_e hv3295 (fun hb3286 hv3295 => ?_) (fun hb3286 hv3295 => ?_)
        · refine W_draw [] false (by kernel_rfl) (by kernel_rfl) ?_
          refine WD_takeK [0, 1, 2, 3, 4] [0, 3, 15] [0, 3, 15] (φ := ((0 ≤ i2855 ∧ i2855 < ((x1.length : Nat) : Int)) ∧ (0 ≤ i2855 ∧ i2855 < ((x1.length : Nat) : Int)) ∧ (True ∧ True ∧ True))) (ls' := #[true, true, true, true, true, false, false, false, false, false, false, false, false, false, false, false, false, false, false, false, false, false, false, false, false, false, false, false, false, false, false, false, false, false, false, false, false, false, false, false, false, false, false]) (Ts' := [(0, .one (.e (.sl 0 0 x1.length))), (3, I i2855), (15, I ((x1.getD i2855.toNat dver).node))]) (st' := ⟨[(0, .one (.e (.sl 0 0 x1.length))), (3, I i2855), (15, I ((x1.getD i2855.toNat dver).node))], [.row .ver x1 false]⟩) (n2 := 38) (by kernel_rfl) ⟨hg3285, hg3285, trivial, trivial, trivial⟩ rfl ?_
          refine WD_all [5] (n := 37) (by kernel_rfl) rfl ?_
          refine WM_call [] Try.f47 rfl rfl (by kernel_rfl) rfl rfl (by kernel_rfl) (spec_inRange_ok ((x1.getD i2855.toNat dver).node) 0 11) (trivial) rfl (And.intro rfl (trivial)) ?_
          refine WD_takeK [6, 7] [0, 3, 18] [0, 3, 18] (φ := True) (ls' := #[true, true, true, true, true, true, true, true, false, false, false, false, false, false, false, false, false, false, false, false, false, false, false, false, false, false, false, false, false, false, false, false, false, false, false, false, false, false, false, false, false, false, false]) (Ts' := [(0, .one (.e (.sl 0 0 x1.length))), (3, I i2855), (18, B (!(spec_inRange ((x1.getD i2855.toNat dver).node) 0 11)))]) (st' := ⟨[(0, .one (.e (.sl 0 0 x1.length))), (3, I i2855), (18, B (!(spec_inRange ((x1.getD i2855.toNat dver).node) 0 11)))], [.row .ver x1 false]⟩) (n2 := 35) (by kernel_rfl) trivial rfl ?_
          refine WD_known 18 true rfl rfl hb3286 ?_
          refine WD_takeK [8, 9, 10, 11, 12, 13, 14, 15, 16, 17, 18, 19, 20, 21, 22, 23, 24, 25, 26, 27, 28, 29, 30, 31, 32, 33, 34, 35, 36, 37, 38, 39, 40, 41, 42] [0, 3, 53] [0, 3, 53] (φ := True) (ls' := #[true, true, true, true, true, true, true, true, true, true, true, true, true, true, true, true, true, true, true, true, true, true, true, true, true, true, true, true, true, true, true, true, true, true, true, true, true, true, true, true, true, true, true]) (Ts' := [(0, .one (.e (.sl 0 0 x1.length))), (3, I i2855), (53, B true)]) (st' := ⟨[(0, .one (.e (.sl 0 0 x1.length))), (3, I i2855), (53, B true)], [.row .ver x1 false]⟩) (n2 := 0) (by kernel_rfl) trivial rfl ?_
          exact WD_done [0] [0, 3, 53] (st' := ⟨[(0, .one (.e (.sl 0 0 x1.length))), (3, I i2855), (53, B true)], [.row .ver x1 false]⟩) (by kernel_rfl) (by kernel_rfl) (And.intro rfl (by cases hv3295; rfl))
        · refine guardO_e hv3295 (fun hg3287 hv3295 => ?_)
          refine iteO_e hv3295 (fun hb3288 hv3295 => ?_) (fun hb3288 hv3295 => ?_)
          · refine W_draw [] false (by kernel_rfl) (by kernel_rfl) ?_
            refine WD_takeK [0, 1, 2, 3, 4] [0, 3, 15] [0, 3, 15] (φ := ((0 ≤ i2855 ∧ i2855 < ((x1.length : Nat) : Int)) ∧ (0 ≤ i2855 ∧ i2855 < ((x1.length : Nat) : Int)) ∧ (True ∧ True ∧ True))) (ls' := #[true, true, true, true, true, false, false, false, false, false, false, false, false, false, false, false, false, false, false, false, false, false, false, false, false, false, false, false, false, false, false, false, false, false, false, false, false, false, false, false, false, false, false]) (Ts' := [(0, .one (.e (.sl 0 0 x1.length))), (3, I i2855), (15, I ((x1.getD i2855.toNat dver).node))]) (st' := ⟨[(0, .one (.e (.sl 0 0 x1.length))), (3, I i2855), (15, I ((x1.getD i2855.toNat dver).node))], [.row .ver x1 false]⟩) (n2 := 38) (by kernel_rfl) ⟨hg3285, hg3285, trivial, trivial, trivial⟩ rfl ?_
            refine WD_all [5] (n := 37) (by kernel_rfl) rfl ?_
            refine WM_call [] Try.f47 rfl rfl (by kernel_rfl) rfl rfl (by kernel_rfl) (spec_inRange_ok ((x1.getD i2855.toNat dver).node) 0 11) (trivial) rfl (And.intro rfl (trivial)) ?_
            refine WD_takeK [6, 7] [0, 3, 18] [0, 3, 18] (φ := True) (ls' := #[true, true, true, true, true, true, true, true, false, false, false, false, false, false, false, false, false, false, false, false, false, false, false, false, false, false, false, false, false, false, false, false, false, false, false, false, false, false, false, false, false, false, false]) (Ts' := [(0, .one (.e (.sl 0 0 x1.length))), (3, I i2855), (18, B (!(spec_inRange ((x1.getD i2855.toNat dver).node) 0 11)))]) (st' := ⟨[(0, .one (.e (.sl 0 0 x1.length))), (3, I i2855), (18, B (!(spec_inRange ((x1.getD i2855.toNat dver).node) 0 11)))], [.row .ver x1 false]⟩) (n2 := 35) (by kernel_rfl) trivial rfl ?_
            refine WD_known 18 false rfl rfl hb3286 ?_
            refine WD_takeK [8, 9, 10, 11, 12] [0, 3, 18, 23] [0, 3, 18, 23] (φ := ((0 ≤ i2855 ∧ i2855 < ((x1.length : Nat) : Int)) ∧ (0 ≤ i2855 ∧ i2855 < ((x1.length : Nat) : Int)) ∧ (True ∧ True ∧ True))) (ls' := #[true, true, true, true, true, true, true, true, true, true, true, true, true, false, false, false, false, false, false, false, false, false, false, false, false, false, false, false, false, false, false, false, false, false, false, false, false, false, false, false, false, false, false]) (Ts' := [(0, .one (.e (.sl 0 0 x1.length))), (3, I i2855), (18, B false), (23, I ((x1.getD i2855.toNat dver).value))]) (st' := ⟨[(0, .one (.e (.sl 0 0 x1.length))), (3, I i2855), (18, B false), (23, I ((x1.getD i2855.toNat dver).value))], [.row .ver x1 false]⟩) (n2 := 30) (by kernel_rfl) ⟨hg3287, hg3287, trivial, trivial, trivial⟩ rfl ?_
            refine WD_all [13] (n := 29) (by kernel_rfl) rfl ?_
            refine WM_call [] Try.f47 rfl rfl (by kernel_rfl) rfl rfl (by kernel_rfl) (spec_inRange_ok ((x1.getD i2855.toNat dver).value) (-1000) 1000) (trivial) rfl (And.intro rfl (trivial)) ?_
            refine WD_takeK [14, 15, 16] [0, 3, 27] [0, 3, 27] (φ := True) (ls' := #[true, true, true, true, true, true, true, true, true, true, true, true, true, true, true, true, true, false, false, false, false, false, false, false, false, false, false, false, false, false, false, false, false, false, false, false, false, false, false, false, false, false, false]) (Ts' := [(0, .one (.e (.sl 0 0 x1.length))), (3, I i2855), (27, B (!(spec_inRange ((x1.getD i2855.toNat dver).value) (-1000) 1000)))]) (st' := ⟨[(0, .one (.e (.sl 0 0 x1.length))), (3, I i2855), (27, B (!(spec_inRange ((x1.getD i2855.toNat dver).value) (-1000) 1000)))], [.row .ver x1 false]⟩) (n2 := 26) (by kernel_rfl) trivial rfl ?_
            refine WD_known 27 true rfl rfl hb3288 ?_
            refine WD_takeK [17, 18, 19, 20, 21, 22, 23, 24, 25, 26, 27, 28, 29, 30, 31, 32, 33, 34, 35, 36, 37, 38, 39, 40, 41, 42] [0, 3, 53] [0, 3, 53] (φ := True) (ls' := #[true, true, true, true, true, true, true, true, true, true, true, true, true, true, true, true, true, true, true, true, true, true, true, true, true, true, true, true, true, true, true, true, true, true, true, true, true, true, true, true, true, true, true]) (Ts' := [(0, .one (.e (.sl 0 0 x1.length))), (3, I i2855), (53, B true)]) (st' := ⟨[(0, .one (.e (.sl 0 0 x1.length))), (3, I i2855), (53, B true)], [.row .ver x1 false]⟩) (n2 := 0) (by kernel_rfl) trivial rfl ?_
            exact WD_done [0] [0, 3, 53] (st' := ⟨[(0, .one (.e (.sl 0 0 x1.length))), (3, I i2855), (53, B true)], [.row .ver x1 false]⟩) (by kernel_rfl) (by kernel_rfl) (And.intro rfl (by cases hv3295; rfl))
          · refine guardO_e hv3295 (fun hg3289 hv3295 => ?_)
            refine iteO_e hv3295 (fun hb3290 hv3295 => ?_) (fun hb3290 hv3295 => ?_)
            · refine W_draw [] false (by kernel_rfl) (by kernel_rfl) ?_
              refine WD_takeK [0, 1, 2, 3, 4] [0, 3, 15] [0, 3, 15] (φ := ((0 ≤ i2855 ∧ i2855 < ((x1.length : Nat) : Int)) ∧ (0 ≤ i2855 ∧ i2855 < ((x1.length : Nat) : Int)) ∧ (True ∧ True ∧ True))) (ls' := #[true, true, true, true, true, false, false, false, false, false, false, false, false, false, false, false, false, false, false, false, false, false, false, false, false, false, false, false, false, false, false, false, false, false, false, false, false, false, false, false, false, false, false]) (Ts' := [(0, .one (.e (.sl 0 0 x1.length))), (3, I i2855), (15, I ((x1.getD i2855.toNat dver).node))]) (st' := ⟨[(0, .one (.e (.sl 0 0 x1.length))), (3, I i2855), (15, I ((x1.getD i2855.toNat dver).node))], [.row .ver x1 false]⟩) (n2 := 38) (by kernel_rfl) ⟨hg3285, hg3285, trivial, trivial, trivial⟩ rfl ?_
              refine WD_all [5] (n := 37) (by kernel_rfl) rfl ?_
              refine WM_call [] Try.f47 rfl rfl (by kernel_rfl) rfl rfl (by kernel_rfl) (spec_inRange_ok ((x1.getD i2855.toNat dver).node) 0 11) (trivial) rfl (And.intro rfl (trivial)) ?_
              refine WD_takeK [6, 7] [0, 3, 18] [0, 3, 18] (φ := True) (ls' := #[true, true, true, true, true, true, true, true, false, false, false, false, false, false, false, false, false, false, false, false, false, false, false, false, false, false, false, false, false, false, false, false, false, false, false, false, false, false, false, false, false, false, false]) (Ts' := [(0, .one (.e (.sl 0 0 x1.length))), (3, I i2855), (18, B (!(spec_inRange ((x1.getD i2855.toNat dver).node) 0 11)))]) (st' := ⟨[(0, .one (.e (.sl 0 0 x1.length))), (3, I i2855), (18, B (!(spec_inRange ((x1.getD i2855.toNat dver).node) 0 11)))], [.row .ver x1 false]⟩) (n2 := 35) (by kernel_rfl) trivial rfl ?_
              refine WD_known 18 false rfl rfl hb3286 ?_
              refine WD_takeK [8, 9, 10, 11, 12] [0, 3, 18, 23] [0, 3, 18, 23] (φ := ((0 ≤ i2855 ∧ i2855 < ((x1.length : Nat) : Int)) ∧ (0 ≤ i2855 ∧ i2855 < ((x1.length : Nat) : Int)) ∧ (True ∧ True ∧ True))) (ls' := #[true, true, true, true, true, true, true, true, true, true, true, true, true, false, false, false, false, false, false, false, false, false, false, false, false, false, false, false, false, false, false, false, false, false, false, false, false, false, false, false, false, false, false]) (Ts' := [(0, .one (.e (.sl 0 0 x1.length))), (3, I i2855), (18, B false), (23, I ((x1.getD i2855.toNat dver).value))]) (st' := ⟨[(0, .one (.e (.sl 0 0 x1.length))), (3, I i2855), (18, B false), (23, I ((x1.getD i2855.toNat dver).value))], [.row .ver x1 false]⟩) (n2 := 30) (by kernel_rfl) ⟨hg3287, hg3287, trivial, trivial, trivial⟩ rfl ?_
              refine WD_all [13] (n := 29) (by kernel_rfl) rfl ?_
              refine WM_call [] Try.f47 rfl rfl (by kernel_rfl) rfl rfl (by kernel_rfl) (spec_inRange_ok ((x1.getD i2855.toNat dver).value) (-1000) 1000) (trivial) rfl (And.intro rfl (trivial)) ?_
              refine WD_takeK [14, 15, 16] [0, 3, 27] [0, 3, 27] (φ := True) (ls' := #[true, true, true, true, true, true, true, true, true, true, true, true, true, true, true, true, true, false, false, false, false, false, false, false, false, false, false, false, false, false, false, false, false, false, false, false, false, false, false, false, false, false, false]) (Ts' := [(0, .one (.e (.sl 0 0 x1.length))), (3, I i2855), (27, B (!(spec_inRange ((x1.getD i2855.toNat dver).value) (-1000) 1000)))]) (st' := ⟨[(0, .one (.e (.sl 0 0 x1.length))), (3, I i2855), (27, B (!(spec_inRange ((x1.getD i2855.toNat dver).value) (-1000) 1000)))], [.row .ver x1 false]⟩) (n2 := 26) (by kernel_rfl) trivial rfl ?_
              refine WD_known 27 false rfl rfl hb3288 ?_
              refine WD_takeK [17, 18, 19, 20, 21] [0, 3, 27, 32] [0, 3, 27, 32] (φ := ((0 ≤ i2855 ∧ i2855 < ((x1.length : Nat) : Int)) ∧ (0 ≤ i2855 ∧ i2855 < ((x1.length : Nat) : Int)) ∧ (True ∧ True ∧ True))) (ls' := #[true, true, true, true, true, true, true, true, true, true, true, true, true, true, true, true, true, true, true, true, true, true, false, false, false, false, false, false, false, false, false, false, false, false, false, false, false, false, false, false, false, false, false]) (Ts' := [(0, .one (.e (.sl 0 0 x1.length))), (3, I i2855), (27, B false), (32, I ((x1.getD i2855.toNat dver).tm))]) (st' := ⟨[(0, .one (.e (.sl 0 0 x1.length))), (3, I i2855), (27, B false), (32, I ((x1.getD i2855.toNat dver).tm))], [.row .ver x1 false]⟩) (n2 := 21) (by kernel_rfl) ⟨hg3289, hg3289, trivial, trivial, trivial⟩ rfl ?_
              refine WD_all [22] (n := 20) (by kernel_rfl) rfl ?_
              refine WM_call [] Try.f47 rfl rfl (by kernel_rfl) rfl rfl (by kernel_rfl) (spec_inRange_ok ((x1.getD i2855.toNat dver).tm) 0 100) (trivial) rfl (And.intro rfl (trivial)) ?_
              refine WD_takeK [23, 24, 25] [0, 3, 36] [0, 3, 36] (φ := True) (ls' := #[true, true, true, true, true, true, true, true, true, true, true, true, true, true, true, true, true, true, true, true, true, true, true, true, true, true, false, false, false, false, false, false, false, false, false, false, false, false, false, false, false, false, false]) (Ts' := [(0, .one (.e (.sl 0 0 x1.length))), (3, I i2855), (36, B (!(spec_inRange ((x1.getD i2855.toNat dver).tm) 0 100)))]) (st' := ⟨[(0, .one (.e (.sl 0 0 x1.length))), (3, I i2855), (36, B (!(spec_inRange ((x1.getD i2855.toNat dver).tm) 0 100)))], [.row .ver x1 false]⟩) (n2 := 17) (by kernel_rfl) trivial rfl ?_
              refine WD_known 36 true rfl rfl hb3290 ?_
              refine WD_takeK [26, 27, 28, 29, 30, 31, 32, 33, 34, 35, 36, 37, 38, 39, 40, 41, 42] [0, 3, 53] [0, 3, 53] (φ := True) (ls' := #[true, true, true, true, true, true, true, true, true, true, true, true, true, true, true, true, true, true, true, true, true, true, true, true, true, true, true, true, true, true, true, true, true, true, true, true, true, true, true, true, true, true, true]) (Ts' := [(0, .one (.e (.sl 0 0 x1.length))), (3, I i2855), (53, B true)]) (st' := ⟨[(0, .one (.e (.sl 0 0 x1.length))), (3, I i2855), (53, B true)], [.row .ver x1 false]⟩) (n2 := 0) (by kernel_rfl) trivial rfl ?_
              exact WD_done [0] [0, 3, 53] (st' := ⟨[(0, .one (.e (.sl 0 0 x1.length))), (3, I i2855), (53, B true)], [.row .ver x1 false]⟩) (by kernel_rfl) (by kernel_rfl) (And.intro rfl (by cases hv3295; rfl))
            · refine iteO_e hv3295 (fun hb3291 hv3295 => ?_) (fun hb3291 hv3295 => ?_)
              · refine guardO_e hv3295 (fun hg3292 hv3295 => ?_)
                refine guardO_e hv3295 (fun hg3293 hv3295 => ?_)
                refine W_draw [] false (by kernel_rfl) (by kernel_rfl) ?_
                refine WD_takeK [0, 1, 2, 3, 4] [0, 3, 15] [0, 3, 15] (φ := ((0 ≤ i2855 ∧ i2855 < ((x1.length : Nat) : Int)) ∧ (0 ≤ i2855 ∧ i2855 < ((x1.length : Nat) : Int)) ∧ (True ∧ True ∧ True))) (ls' := #[true, true, true, true, true, false, false, false, false, false, false, false, false, false, false, false, false, false, false, false, false, false, false, false, false, false, false, false, false, false, false, false, false, false, false, false, false, false, false, false, false, false, false]) (Ts' := [(0, .one (.e (.sl 0 0 x1.length))), (3, I i2855), (15, I ((x1.getD i2855.toNat dver).node))]) (st' := ⟨[(0, .one (.e (.sl 0 0 x1.length))), (3, I i2855), (15, I ((x1.getD i2855.toNat dver).node))], [.row .ver x1 false]⟩) (n2 := 38) (by kernel_rfl) ⟨hg3285, hg3285, trivial, trivial, trivial⟩ rfl ?_
                refine WD_all [5] (n := 37) (by kernel_rfl) rfl ?_
                refine WM_call [] Try.f47 rfl rfl (by kernel_rfl) rfl rfl (by kernel_rfl) (spec_inRange_ok ((x1.getD i2855.toNat dver).node) 0 11) (trivial) rfl (And.intro rfl (trivial)) ?_
                refine WD_takeK [6, 7] [0, 3, 18] [0, 3, 18] (φ := True) (ls' := #[true, true, true, true, true, true, true, true, false, false, false, false, false, false, false, false, false, false, false, false, false, false, false, false, false, false, false, false, false, false, false, false, false, false, false, false, false, false, false, false, false, false, false]) (Ts' := [(0, .one (.e (.sl 0 0 x1.length))), (3, I i2855), (18, B (!(spec_inRange ((x1.getD i2855.toNat dver).node) 0 11)))]) (st' := ⟨[(0, .one (.e (.sl 0 0 x1.length))), (3, I i2855), (18, B (!(spec_inRange ((x1.getD i2855.toNat dver).node) 0 11)))], [.row .ver x1 false]⟩) (n2 := 35) (by kernel_rfl) trivial rfl ?_
                refine WD_known 18 false rfl rfl hb3286 ?_
                refine WD_takeK [8, 9, 10, 11, 12] [0, 3, 18, 23] [0, 3, 18, 23] (φ := ((0 ≤ i2855 ∧ i2855 < ((x1.length : Nat) : Int)) ∧ (0 ≤ i2855 ∧ i2855 < ((x1.length : Nat) : Int)) ∧ (True ∧ True ∧ True))) (ls' := #[true, true, true, true, true, true, true, true, true, true, true, true, true, false, false, false, false, false, false, false, false, false, false, false, false, false, false, false, false, false, false, false, false, false, false, false, false, false, false, false, false, false, false]) (Ts' := [(0, .one (.e (.sl 0 0 x1.length))), (3, I i2855), (18, B false), (23, I ((x1.getD i2855.toNat dver).value))]) (st' := ⟨[(0, .one (.e (.sl 0 0 x1.length))), (3, I i2855), (18, B false), (23, I ((x1.getD i2855.toNat dver).value))], [.row .ver x1 false]⟩) (n2 := 30) (by kernel_rfl) ⟨hg3287, hg3287, trivial, trivial, trivial⟩ rfl ?_
                refine WD_all [13] (n := 29) (by kernel_rfl) rfl ?_
                refine WM_call [] Try.f47 rfl rfl (by kernel_rfl) rfl rfl (by kernel_rfl) (spec_inRange_ok ((x1.getD i2855.toNat dver).value) (-1000) 1000) (trivial) rfl (And.intro rfl (trivial)) ?_
                refine WD_takeK [14, 15, 16] [0, 3, 27] [0, 3, 27] (φ := True) (ls' := #[true, true, true, true, true, true, true, true, true, true, true, true, true, true, true, true, true, false, false, false, false, false, false, false, false, false, false, false, false, false, false, false, false, false, false, false, false, false, false, false, false, false, false]) (Ts' := [(0, .one (.e (.sl 0 0 x1.length))), (3, I i2855), (27, B (!(spec_inRange ((x1.getD i2855.toNat dver).value) (-1000) 1000)))]) (st' := ⟨[(0, .one (.e (.sl 0 0 x1.length))), (3, I i2855), (27, B (!(spec_inRange ((x1.getD i2855.toNat dver).value) (-1000) 1000)))], [.row .ver x1 false]⟩) (n2 := 26) (by kernel_rfl) trivial rfl ?_
                refine WD_known 27 false rfl rfl hb3288 ?_
                refine WD_takeK [17, 18, 19, 20, 21] [0, 3, 27, 32] [0, 3, 27, 32] (φ := ((0 ≤ i2855 ∧ i2855 < ((x1.length : Nat) : Int)) ∧ (0 ≤ i2855 ∧ i2855 < ((x1.length : Nat) : Int)) ∧ (True ∧ True ∧ True))) (ls' := #[true, true, true, true, true, true, true, true, true, true, true, true, true, true, true, true, true, true, true, true, true, true, false, false, false, false, false, false, false, false, false, false, false, false, false, false, false, false, false, false, false, false, false]) (Ts' := [(0, .one (.e (.sl 0 0 x1.length))), (3, I i2855), (27, B false), (32, I ((x1.getD i2855.toNat dver).tm))]) (st' := ⟨[(0, .one (.e (.sl 0 0 x1.length))), (3, I i2855), (27, B false), (32, I ((x1.getD i2855.toNat dver).tm))], [.row .ver x1 false]⟩) (n2 := 21) (by kernel_rfl) ⟨hg3289, hg3289, trivial, trivial, trivial⟩ rfl ?_
                refine WD_all [22] (n := 20) (by kernel_rfl) rfl ?_
                refine WM_call [] Try.f47 rfl rfl (by kernel_rfl) rfl rfl (by kernel_rfl) (spec_inRange_ok ((x1.getD i2855.toNat dver).tm) 0 100) (trivial) rfl (And.intro rfl (trivial)) ?_
                refine WD_takeK [23, 24, 25] [0, 3, 36] [0, 3, 36] (φ := True) (ls' := #[true, true, true, true, true, true, true, true, true, true, true, true, true, true, true, true, true, true, true, true, true, true, true, true, true, true, false, false, false, false, false, false, false, false, false, false, false, false, false, false, false, false, false]) (Ts' := [(0, .one (.e (.sl 0 0 x1.length))), (3, I i2855), (36, B (!(spec_inRange ((x1.getD i2855.toNat dver).tm) 0 100)))]) (st' := ⟨[(0, .one (.e (.sl 0 0 x1.length))), (3, I i2855), (36, B (!(spec_inRange ((x1.getD i2855.toNat dver).tm) 0 100)))], [.row .ver x1 false]⟩) (n2 := 17) (by kernel_rfl) trivial rfl ?_
                refine WD_known 36 false rfl rfl hb3290 ?_
                refine WD_takeK [26, 27, 28] [0, 3, 36, 39] [0, 3, 36, 39] (φ := (True ∧ True ∧ True)) (ls' := #[true, true, true, true, true, true, true, true, true, true, true, true, true, true, true, true, true, true, true, true, true, true, true, true, true, true, true, true, true, false, false, false, false, false, false, false, false, false, false, false, false, false, false]) (Ts' := [(0, .one (.e (.sl 0 0 x1.length))), (3, I i2855), (36, B false), (39, B (decide (0 < i2855)))]) (st' := ⟨[(0, .one (.e (.sl 0 0 x1.length))), (3, I i2855), (36, B false), (39, B (decide (0 < i2855)))], [.row .ver x1 false]⟩) (n2 := 14) (by kernel_rfl) ⟨trivial, trivial, trivial⟩ rfl ?_
                refine WD_known 39 true rfl rfl hb3291 ?_
                refine WD_takeK [29, 30, 31, 32, 33, 34, 35, 36, 37, 38, 39, 40, 41, 42] [0, 3, 53] [0, 3, 53] (φ := ((0 ≤ i2855 ∧ i2855 < ((x1.length : Nat) : Int)) ∧ (0 ≤ i2855 ∧ i2855 < ((x1.length : Nat) : Int)) ∧ (True ∧ True ∧ (True ∧ True ∧ ((0 ≤ (w64 (i2855 - 1)) ∧ (w64 (i2855 - 1)) < ((x1.length : Nat) : Int)) ∧ (0 ≤ (w64 (i2855 - 1)) ∧ (w64 (i2855 - 1)) < ((x1.length : Nat) : Int)) ∧ (True ∧ True ∧ (True ∧ True ∧ True))))))) (ls' := #[true, true, true, true, true, true, true, true, true, true, true, true, true, true, true, true, true, true, true, true, true, true, true, true, true, true, true, true, true, true, true, true, true, true, true, true, true, true, true, true, true, true, true]) (Ts' := [(0, .one (.e (.sl 0 0 x1.length))), (3, I i2855), (53, B (decide (((x1.getD i2855.toNat dver).tm) < ((x1.getD ((w64 (i2855 - 1)).toNat) dver).tm))))]) (st' := ⟨[(0, .one (.e (.sl 0 0 x1.length))), (3, I i2855), (53, B (decide (((x1.getD i2855.toNat dver).tm) < ((x1.getD ((w64 (i2855 - 1)).toNat) dver).tm))))], [.row .ver x1 false]⟩) (n2 := 0) (by kernel_rfl) ⟨hg3292, hg3292, trivial, trivial, trivial, trivial, hg3293, hg3293, trivial, trivial, trivial, trivial, trivial⟩ rfl ?_
                exact WD_done [0] [0, 3, 53] (st' := ⟨[(0, .one (.e (.sl 0 0 x1.length))), (3, I i2855), (53, B (decide (((x1.getD i2855.toNat dver).tm) < ((x1.getD ((w64 (i2855 - 1)).toNat) dver).tm))))], [.row .ver x1 false]⟩) (by kernel_rfl) (by kernel_rfl) (And.intro rfl (by cases hv3295; rfl))
              · refine W_draw [] false (by kernel_rfl) (by kernel_rfl) ?_
                refine WD_takeK [0, 1, 2, 3, 4] [0, 3, 15] [0, 3, 15] (φ := ((0 ≤ i2855 ∧ i2855 < ((x1.length : Nat) : Int)) ∧ (0 ≤ i2855 ∧ i2855 < ((x1.length : Nat) : Int)) ∧ (True ∧ True ∧ True))) (ls' := #[true, true, true, true, true, false, false, false, false, false, false, false, false, false, false, false, false, false, false, false, false, false, false, false, false, false, false, false, false, false, false, false, false, false, false, false, false, false, false, false, false, false, false]) (Ts' := [(0, .one (.e (.sl 0 0 x1.length))), (3, I i2855), (15, I ((x1.getD i2855.toNat dver).node))]) (st' := ⟨[(0, .one (.e (.sl 0 0 x1.length))), (3, I i2855), (15, I ((x1.getD i2855.toNat dver).node))], [.row .ver x1 false]⟩) (n2 := 38) (by kernel_rfl) ⟨hg3285, hg3285, trivial, trivial, trivial⟩ rfl ?_
                refine WD_all [5] (n := 37) (by kernel_rfl) rfl ?_
                refine WM_call [] Try.f47 rfl rfl (by kernel_rfl) rfl rfl (by kernel_rfl) (spec_inRange_ok ((x1.getD i2855.toNat dver).node) 0 11) (trivial) rfl (And.intro rfl (trivial)) ?_
                refine WD_takeK [6, 7] [0, 3, 18] [0, 3, 18] (φ := True) (ls' := #[true, true, true, true, true, true, true, true, false, false, false, false, false, false, false, false, false, false, false, false, false, false, false, false, false, false, false, false, false, false, false, false, false, false, false, false, false, false, false, false, false, false, false]) (Ts' := [(0, .one (.e (.sl 0 0 x1.length))), (3, I i2855), (18, B (!(spec_inRange ((x1.getD i2855.toNat dver).node) 0 11)))]) (st' := ⟨[(0, .one (.e (.sl 0 0 x1.length))), (3, I i2855), (18, B (!(spec_inRange ((x1.getD i2855.toNat dver).node) 0 11)))], [.row .ver x1 false]⟩) (n2 := 35) (by kernel_rfl) trivial rfl ?_
                refine WD_known 18 false rfl rfl hb3286 ?_
                refine WD_takeK [8, 9, 10, 11, 12] [0, 3, 18, 23] [0, 3, 18, 23] (φ := ((0 ≤ i2855 ∧ i2855 < ((x1.length : Nat) : Int)) ∧ (0 ≤ i2855 ∧ i2855 < ((x1.length : Nat) : Int)) ∧ (True ∧ True ∧ True))) (ls' := #[true, true, true, true, true, true, true, true, true, true, true, true, true, false, false, false, false, false, false, false, false, false, false, false, false, false, false, false, false, false, false, false, false, false, false, false, false, false, false, false, false, false, false]) (Ts' := [(0, .one (.e (.sl 0 0 x1.length))), (3, I i2855), (18, B false), (23, I ((x1.getD i2855.toNat dver).value))]) (st' := ⟨[(0, .one (.e (.sl 0 0 x1.length))), (3, I i2855), (18, B false), (23, I ((x1.getD i2855.toNat dver).value))], [.row .ver x1 false]⟩) (n2 := 30) (by kernel_rfl) ⟨hg3287, hg3287, trivial, trivial, trivial⟩ rfl ?_
                refine WD_all [13] (n := 29) (by kernel_rfl) rfl ?_
                refine WM_call [] Try.f47 rfl rfl (by kernel_rfl) rfl rfl (by kernel_rfl) (spec_inRange_ok ((x1.getD i2855.toNat dver).value) (-1000) 1000) (trivial) rfl (And.intro rfl (trivial)) ?_
                refine WD_takeK [14, 15, 16] [0, 3, 27] [0, 3, 27] (φ := True) (ls' := #[true, true, true, true, true, true, true, true, true, true, true, true, true, true, true, true, true, false, false, false, false, false, false, false, false, false, false, false, false, false, false, false, false, false, false, false, false, false, false, false, false, false, false]) (Ts' := [(0, .one (.e (.sl 0 0 x1.length))), (3, I i2855), (27, B (!(spec_inRange ((x1.getD i2855.toNat dver).value) (-1000) 1000)))]) (st' := ⟨[(0, .one (.e (.sl 0 0 x1.length))), (3, I i2855), (27, B (!(spec_inRange ((x1.getD i2855.toNat dver).value) (-1000) 1000)))], [.row .ver x1 false]⟩) (n2 := 26) (by kernel_rfl) trivial rfl ?_
                refine WD_known 27 false rfl rfl hb3288 ?_
                refine WD_takeK [17, 18, 19, 20, 21] [0, 3, 27, 32] [0, 3, 27, 32] (φ := ((0 ≤ i2855 ∧ i2855 < ((x1.length : Nat) : Int)) ∧ (0 ≤ i2855 ∧ i2855 < ((x1.length : Nat) : Int)) ∧ (True ∧ True ∧ True))) (ls' := #[true, true, true, true, true, true, true, true, true, true, true, true, true, true, true, true, true, true, true, true, true, true, false, false, false, false, false, false, false, false, false, false, false, false, false, false, false, false, false, false, false, false, false]) (Ts' := [(0, .one (.e (.sl 0 0 x1.length))), (3, I i2855), (27, B false), (32, I ((x1.getD i2855.toNat dver).tm))]) (st' := ⟨[(0, .one (.e (.sl 0 0 x1.length))), (3, I i2855), (27, B false), (32, I ((x1.getD i2855.toNat dver).tm))], [.row .ver x1 false]⟩) (n2 := 21) (by kernel_rfl) ⟨hg3289, hg3289, trivial, trivial, trivial⟩ rfl ?_
                refine WD_all [22] (n := 20) (by kernel_rfl) rfl ?_
                refine WM_call [] Try.f47 rfl rfl (by kernel_rfl) rfl rfl (by kernel_rfl) (spec_inRange_ok ((x1.getD i2855.toNat dver).tm) 0 100) (trivial) rfl (And.intro rfl (trivial)) ?_
                refine WD_takeK [23, 24, 25] [0, 3, 36] [0, 3, 36] (φ := True) (ls' := #[true, true, true, true, true, true, true, true, true, true, true, true, true, true, true, true, true, true, true, true, true, true, true, true, true, true, false, false, false, false, false, false, false, false, false, false, false, false, false, false, false, false, false]) (Ts' := [(0, .one (.e (.sl 0 0 x1.length))), (3, I i2855), (36, B (!(spec_inRange ((x1.getD i2855.toNat dver).tm) 0 100)))]) (st' := ⟨[(0, .one (.e (.sl 0 0 x1.length))), (3, I i2855), (36, B (!(spec_inRange ((x1.getD i2855.toNat dver).tm) 0 100)))], [.row .ver x1 false]⟩) (n2 := 17) (by kernel_rfl) trivial rfl ?_
                refine WD_known 36 false rfl rfl hb3290 ?_
                refine WD_takeK [26, 27, 28] [0, 3, 36, 39] [0, 3, 36, 39] (φ := (True ∧ True ∧ True)) (ls' := #[true, true, true, true, true, true, true, true, true, true, true, true, true, true, true, true, true, true, true, true, true, true, true, true, true, true, true, true, true, false, false, false, false, false, false, false, false, false, false, false, false, false, false]) (Ts' := [(0, .one (.e (.sl 0 0 x1.length))), (3, I i2855), (36, B false), (39, B (decide (0 < i2855)))]) (st' := ⟨[(0, .one (.e (.sl 0 0 x1.length))), (3, I i2855), (36, B false), (39, B (decide (0 < i2855)))], [.row .ver x1 false]⟩) (n2 := 14) (by kernel_rfl) ⟨trivial, trivial, trivial⟩ rfl ?_
                refine WD_known 39 false rfl rfl hb3291 ?_
                refine WD_takeK [29, 30, 31, 32, 33, 34, 35, 36, 37, 38, 39, 40, 41, 42] [0, 3, 53] [0, 3, 53] (φ := True) (ls' := #[true, true, true, true, true, true, true, true, true, true, true, true, true, true, true, true, true, true, true, true, true, true, true, true, true, true, true, true, true, true, true, true, true, true, true, true, true, true, true, true, true, true, true]) (Ts' := [(0, .one (.e (.sl 0 0 x1.length))), (3, I i2855), (53, B false)]) (st' := ⟨[(0, .one (.e (.sl 0 0 x1.length))), (3, I i2855), (53, B false)], [.row .ver x1 false]⟩) (n2 := 0) (by kernel_rfl) trivial rfl ?_
                exact WD_done [0] [0, 3, 53] (st' := ⟨[(0, .one (.e (.sl 0 0 x1.length))), (3, I i2855), (53, B false)], [.row .ver x1 false]⟩) (by kernel_rfl) (by kernel_rfl) (And.intro rfl (by cases hv3295; rfl))
      · rintro _ _ ⟨rfl, rfl⟩
        refine thenS_n ?_
        refine iteO_e h (fun hb3297 h => W_true rfl hb3297 ?_) (fun hb3297 h => W_false rfl hb3297 ?_)
        · refine W_seq ?_
          refine W_region ?_
          refine WO_step 1 [0] [2] True ⟨[(2, B false)], [.row .ver x1 false]⟩ (by kernel_rfl) trivial ?_
          refine WO_nil rfl ?_
          refine thenS_n ?_
          refine W_ret ?_
          refine thenS_r ?_
          refine blockS_r ?_
          refine thenS_r ?_
          refine thenS_r ?_
          cases h
          exact And.intro rfl rfl
        · refine W_sub [0] [0, 3] (st' := ⟨[(0, .one (.e (.sl 0 0 x1.length))), (3, I i2855)], [.row .ver x1 false]⟩) (by kernel_rfl) ?_
          refine W_skip ?_
          refine thenS_n ?_
          refine W_seq ?_
          refine W_region ?_
          refine WO_step 1 [0] [0, 3, 4] True ⟨[(0, .one (.e (.sl 0 0 x1.length))), (3, I i2855), (4, I 0)], [.row .ver x1 false]⟩ (by kernel_rfl) trivial ?_
          refine WO_nil rfl ?_
          refine thenS_n ?_
          refine W_block ?_
          refine W_loop ?_
          refine bindO_e h (fun v3425 hv3425 h => ?_)
          refine WL_cut (spec_validVersions_L52_ok w X θ x1 i2855 v3425 n 0 hv3425) ?_
          rcases v3425 with _ | _
          · rintro _ _ ⟨rfl, rfl⟩
            refine blockS_r ?_
            refine blockS_r ?_
            refine thenS_r ?_
            refine thenS_r ?_
            cases h
            exact And.intro rfl rfl
          · rintro _ _ ⟨rfl, rfl⟩
            refine blockS_y ?_
            refine blockS_n ?_
            refine thenS_n ?_
            refine W_region ?_
            refine WO_step 3 [0] [0, 3] (True ∧ True) ⟨[(0, .one (.e (.sl 0 0 x1.length))), (3, I (w64 (i2855 + 1)))], [.row .ver x1 false]⟩ (by kernel_rfl) ⟨trivial, trivial⟩ ?_
            refine WO_nil rfl ?_
            refine thenS_n ?_
            exact ih _ h
    · refine W_sub [0] [0] (st' := ⟨[(0, .one (.e (.sl 0 0 x1.length)))], [.row .ver x1 false]⟩) (by kernel_rfl) ?_
      refine W_exit ?_
      refine thenS_e ?_
      refine thenS_e ?_
      cases h
      exact And.intro rfl rfl

def spec_validVersions (n : Nat) (x1 : List Ver) : Option (Bool) :=
 bindO (spec_validVersions_L48 x1 n 0) fun v3426 =>
 match v3426 with
 | (.inl _) => (some false)
 | (.inr _) => (some (decide (((x1.length : Nat) : Int) ≤ 16)))


theorem spec_validVersions_ok (n : Nat) (x1 : List Ver) (b1714 : Bool) (h : spec_validVersions n x1 = some b1714) : FOk EE 36 [.one (.e (.sl 0 0 x1.length))] [.row .ver x1 false] (B b1714) [.row .ver x1 false] := by
  unfold spec_validVersions at h
  refine FOk_of_W 86 1 Try.func36 rfl rfl (Nat.le_of_ble_eq_true rfl) rfl (fun w X θ => ?_)
  refine W_seq ?_
  refine W_region ?_
  refine WO_step 1 [0] [0] True ⟨[(0, .one (.e (.sl 0 0 x1.length)))], [.row .ver x1 false]⟩ (by kernel_rfl) trivial ?_
  refine WO_nil rfl ?_
  refine thenS_n ?_
  refine W_seq ?_
  refine W_seq ?_
  refine W_region ?_
  refine WO_step 1 [0] [0, 3] True ⟨[(0, .one (.e (.sl 0 0 x1.length))), (3, I 0)], [.row .ver x1 false]⟩ (by kernel_rfl) trivial ?_
  refine WO_nil rfl ?_
  refine thenS_n ?_
  refine W_block ?_
  refine W_loop ?_
  refine bindO_e h (fun v3426 hv3426 h => ?_)
  refine WL_cut (spec_validVersions_L48_ok w X θ x1 v3426 n 0 hv3426) ?_
  rcases v3426 with _ | _
  · rintro _ _ ⟨rfl, rfl⟩
    refine blockS_r ?_
    refine thenS_r ?_
    cases h
    exact ⟨[0], True, by kernel_rfl, trivial⟩
  · rintro _ _ ⟨rfl, rfl⟩
    refine blockS_y ?_
    refine thenS_n ?_
    refine W_seq ?_
    refine W_region ?_
    refine WO_step 4 [0] [2] (True ∧ (True ∧ True)) ⟨[(2, B (decide (((x1.length : Nat) : Int) ≤ 16)))], [.row .ver x1 false]⟩ (by kernel_rfl) ⟨trivial, trivial, trivial⟩ ?_
    refine WO_nil rfl ?_
    refine thenS_n ?_
    refine W_ret ?_
    cases h
    exact ⟨[0], True, by kernel_rfl, trivial⟩

/- spec.ValidVersions -/
def spec_ValidVersions (n : Nat) (x1 : List Ver) : Option (Bool) :=
 bindO (spec_validVersions n x1) fun b5 =>
 some b5

theorem spec_ValidVersions_ok (n : Nat) (x1 : List Ver) (b4 : Bool) (h : spec_ValidVersions n x1 = some b4) : FOk EE 18 [.one (.e (.sl 0 0 x1.length))] [.row .ver x1 false] (B b4) [.row .ver x1 false] := by
  unfold spec_ValidVersions at h
  refine FOk_of_W 5 1 Try.func18 rfl rfl (Nat.le_of_ble_eq_true rfl) rfl (fun w X θ => ?_)
  refine W_seq ?_
  refine W_region ?_
  refine WO_step 1 [0] [0] True ⟨[(0, .one (.e (.sl 0 0 x1.length)))], [.row .ver x1 false]⟩ (by kernel_rfl) trivial ?_
  refine WO_nil rfl ?_
  refine thenS_n ?_
  refine W_seq ?_
  refine W_region ?_
  refine WO_step 1 [0] [3] True ⟨[(3, .one (.e (.sl 0 0 x1.length)))], [.row .ver x1 false]⟩ (by kernel_rfl) trivial ?_
  refine bindO_e h (fun b5 hc6 h => ?_)
  refine WO_call [.ro 0] Try.f36 rfl rfl rfl (by kernel_rfl) rfl rfl (by kernel_rfl) (spec_validVersions_ok n x1 b5 hc6) (And.intro (And.intro rfl rfl) (trivial)) rfl ?_
  refine WO_step 1 [0] [2] True ⟨[(2, B b5)], [.row .ver x1 false]⟩ (by kernel_rfl) trivial ?_
  refine WO_nil rfl ?_
  refine thenS_n ?_
  refine W_ret ?_
  cases h
  exact ⟨[0], True, by kernel_rfl, trivial⟩

/- impl.within -/
def impl_within (i1 : Int) (i2 : Int) (i3 : Int) : Bool :=
((decide (i2 ≤ i1)) && (decide (i1 ≤ i3)))

theorem impl_within_ok (i1 : Int) (i2 : Int) (i3 : Int) : FOk EE 37 [I i1, I i2, I i3] [] (B (impl_within i1 i2 i3)) [] := by
  refine FOk_of_W 15 0 Try.func37 rfl rfl (Nat.le_of_ble_eq_true rfl) rfl (fun w X θ => ?_)
  refine W_seq ?_
  refine W_region ?_
  refine WO_step 1 [] [0, 1, 2] True ⟨[(0, I i1), (1, I i2), (2, I i3)], []⟩ (by kernel_rfl) trivial ?_
  refine WO_nil rfl ?_
  refine thenS_n ?_
  refine W_seq ?_
  refine W_region ?_
  refine WO_step 4 [] [0, 2, 10] (True ∧ True) ⟨[(0, I i1), (2, I i3), (10, B (decide (i2 ≤ i1)))], []⟩ (by kernel_rfl) ⟨trivial, trivial⟩ ?_
  refine WO_thru ⟨[(6, B ((decide (i2 ≤ i1)) && (decide (i1 ≤ i3))))], []⟩ ?_ ?_
  · refine WO_if 10 rfl (fun hb10 => ?_) (fun hb10 => ?_)
    · refine WO_step 5 [] [6] (True ∧ True) ⟨[(6, B (decide (i1 ≤ i3)))], []⟩ (by kernel_rfl) ⟨trivial, trivial⟩ ?_
      exact WO_nil rfl ⟨rfl, by first | rfl | (rw [hb10]; first | done | rfl)⟩
    · refine WO_step 5 [] [6] True ⟨[(6, B false)], []⟩ (by kernel_rfl) trivial ?_
      exact WO_nil rfl ⟨rfl, by first | rfl | (rw [hb10]; first | done | rfl)⟩
  · refine thenS_n ?_
    refine W_ret ?_
    exact ⟨[], True, by kernel_rfl, trivial⟩

/- impl.ValidVersions -/
def impl_ValidVersions_L52 (x1 : List Ver) (i2507 : Int) : Nat → Int → Option ((Unit) ⊕ (Unit))
| 0, _ => none
| n + 1, i2974 =>
 iteO (decide (i2974 < ((i2507.toNat : Nat) : Int)))
 (guardO (0 ≤ i2974 ∧ i2974 < ((i2507.toNat : Nat) : Int)) <|
 iteO ((decide (((x1.getD i2507.toNat dver).tm) < ((x1.getD i2974.toNat dver).tm))) || ((decide (((x1.getD i2974.toNat dver).tm) = ((x1.getD i2507.toNat dver).tm))) && (decide (((x1.getD i2974.toNat dver).node) = ((x1.getD i2507.toNat dver).node)))))
 (some (.inl ()))
 (impl_ValidVersions_L52 x1 i2507 n (w64 (i2974 + 1))))
 (some (.inr ()))

theorem impl_ValidVersions_L52_ok (w : World) (X : Nat → Prop) (θ : List Loc) (x1 : List Ver) (i2507 : Int) (v : (Unit) ⊕ (Unit)) : ∀ (n : Nat) (i2974 : Int), impl_ValidVersions_L52 x1 i2507 n i2974 = some v → WL EE ⟨w, X, θ, 62, 1⟩ (subC [1, 1, 0, 1, 4, 4, 1, 1, 0, 4, 1, 1, 1, 4, 4] (bodyC Try.f20)) (fun (e : Exit) (s : St) => (match v with | (.inl _) => e = .ret ∧ s = ⟨[(2, B false)], [.row .ver x1 false]⟩ | (.inr _) => e = .exit 2 ∧ s = ⟨[(0, .one (.e (.sl 0 0 x1.length))), (10, .one (.e (.sl 0 0 x1.length))), (11, I ((x1.length : Nat) : Int)), (12, I i2507)], [.row .ver x1 false]⟩ : Prop)) ⟨[(0, .one (.e (.sl 0 0 x1.length))), (4, .one (.e (.p 1 0))), (10, .one (.e (.sl 0 0 x1.length))), (11, I ((x1.length : Nat) : Int)), (12, I i2507), (35, .one (.e (.sl 0 0 i2507.toNat))), (36, I ((i2507.toNat : Nat) : Int)), (37, I i2974)], [.row .ver x1 false, .cells [cI ((x1.getD i2507.toNat dver).node), cI ((x1.getD i2507.toNat dver).value), cI ((x1.getD i2507.toNat dver).tm)]]⟩ := by
  intro n
  induction n with
  | zero => intro _ h; exact none_e h
  | succ n ih =>
    intro i2974 h
    rw [impl_ValidVersions_L52] at h
    refine WL_round ?_
    refine W_seq ?_
    refine W_region ?_
    refine WO_step 1 [0, 1] [0, 4, 10, 11, 12, 35, 36, 37, 38] (True ∧ True) ⟨[(0, .one (.e (.sl 0 0 x1.length))), (4, .one (.e (.p 1 0))), (10, .one (.e (.sl 0 0 x1.length))), (11, I ((x1.length : Nat) : Int)), (12, I i2507), (35, .one (.e (.sl 0 0 i2507.toNat))), (36, I ((i2507.toNat : Nat) : Int)), (37, I i2974), (38, B (decide (i2974 < ((i2507.toNat : Nat) : Int))))], [.row .ver x1 false, .cells [cI ((x1.getD i2507.toNat dver).node), cI ((x1.getD i2507.toNat dver).value), cI ((x1.getD i2507.toNat dver).tm)]]⟩ (by kernel_rfl) ⟨trivial, trivial⟩ ?_
    refine WO_nil rfl ?_
    refine thenS_n ?_
    refine W_seq ?_
    refine iteO_e h (fun hb2996 h => W_true rfl hb2996 ?_) (fun hb2996 h => W_false rfl hb2996 ?_)
    · refine W_sub [0, 1] [0, 4, 10, 11, 12, 35, 36, 37] (st' := ⟨[(0, .one (.e (.sl 0 0 x1.length))), (4, .one (.e (.p 1 0))), (10, .one (.e (.sl 0 0 x1.length))), (11, I ((x1.length : Nat) : Int)), (12, I i2507), (35, .one (.e (.sl 0 0 i2507.toNat))), (36, I ((i2507.toNat : Nat) : Int)), (37, I i2974)], [.row .ver x1 false, .cells [cI ((x1.getD i2507.toNat dver).node), cI ((x1.getD i2507.toNat dver).value), cI ((x1.getD i2507.toNat dver).tm)]]⟩) (by kernel_rfl) ?_
      refine W_skip ?_
      refine thenS_n ?_
      refine W_seq ?_
      refine W_block ?_
      refine W_seq ?_
      refine W_region ?_
      refine guardO_e h (fun hg3005 h => ?_)
      refine WO_step 4 [0, 1, 2] [0, 4, 6, 10, 11, 12, 35, 36, 37] ((0 ≤ i2974 ∧ i2974 < ((i2507.toNat : Nat) : Int)) ∧ (True ∧ (True ∧ (True ∧ True)))) ⟨[(0, .one (.e (.sl 0 0 x1.length))), (4, .one (.e (.p 1 0))), (6, .one (.e (.p 2 0))), (10, .one (.e (.sl 0 0 x1.length))), (11, I ((x1.length : Nat) : Int)), (12, I i2507), (35, .one (.e (.sl 0 0 i2507.toNat))), (36, I ((i2507.toNat : Nat) : Int)), (37, I i2974)], [.row .ver x1 false, .cells [cI ((x1.getD i2507.toNat dver).node), cI ((x1.getD i2507.toNat dver).value), cI ((x1.getD i2507.toNat dver).tm)], .cells [cI ((x1.getD i2974.toNat dver).node), cI ((x1.getD i2974.toNat dver).value), cI ((x1.getD i2974.toNat dver).tm)]]⟩ (by kernel_rfl) ⟨hg3005, trivial, trivial, trivial, trivial⟩ ?_
      refine WO_nil rfl ?_
      refine thenS_n ?_
      refine W_seq ?_
      refine W_region ?_
      refine WO_step 6 [0, 1, 2] [0, 4, 6, 10, 11, 12, 35, 36, 37, 46] (True ∧ (True ∧ (True ∧ True))) ⟨[(0, .one (.e (.sl 0 0 x1.length))), (4, .one (.e (.p 1 0))), (6, .one (.e (.p 2 0))), (10, .one (.e (.sl 0 0 x1.length))), (11, I ((x1.length : Nat) : Int)), (12, I i2507), (35, .one (.e (.sl 0 0 i2507.toNat))), (36, I ((i2507.toNat : Nat) : Int)), (37, I i2974), (46, B (decide (((x1.getD i2507.toNat dver).tm) < ((x1.getD i2974.toNat dver).tm))))], [.row .ver x1 false, .cells [cI ((x1.getD i2507.toNat dver).node), cI ((x1.getD i2507.toNat dver).value), cI ((x1.getD i2507.toNat dver).tm)], .cells [cI ((x1.getD i2974.toNat dver).node), cI ((x1.getD i2974.toNat dver).value), cI ((x1.getD i2974.toNat dver).tm)]]⟩ (by kernel_rfl) ⟨trivial, trivial, trivial, trivial⟩ ?_
      refine WO_thru ⟨[(0, .one (.e (.sl 0 0 x1.length))), (4, .one (.e (.p 1 0))), (10, .one (.e (.sl 0 0 x1.length))), (11, I ((x1.length : Nat) : Int)), (12, I i2507), (35, .one (.e (.sl 0 0 i2507.toNat))), (36, I ((i2507.toNat : Nat) : Int)), (37, I i2974), (59, B ((decide (((x1.getD i2507.toNat dver).tm) < ((x1.getD i2974.toNat dver).tm))) || ((decide (((x1.getD i2974.toNat dver).tm) = ((x1.getD i2507.toNat dver).tm))) && (decide (((x1.getD i2974.toNat dver).node) = ((x1.getD i2507.toNat dver).node))))))], [.row .ver x1 false, .cells [cI ((x1.getD i2507.toNat dver).node), cI ((x1.getD i2507.toNat dver).value), cI ((x1.getD i2507.toNat dver).tm)]]⟩ ?_ ?_
      · refine WO_if 46 rfl (fun hb3009 => ?_) (fun hb3009 => ?_)
        · refine WO_step 13 [0, 1] [0, 4, 10, 11, 12, 35, 36, 37, 59] True ⟨[(0, .one (.e (.sl 0 0 x1.length))), (4, .one (.e (.p 1 0))), (10, .one (.e (.sl 0 0 x1.length))), (11, I ((x1.length : Nat) : Int)), (12, I i2507), (35, .one (.e (.sl 0 0 i2507.toNat))), (36, I ((i2507.toNat : Nat) : Int)), (37, I i2974), (59, B true)], [.row .ver x1 false, .cells [cI ((x1.getD i2507.toNat dver).node), cI ((x1.getD i2507.toNat dver).value), cI ((x1.getD i2507.toNat dver).tm)]]⟩ (by kernel_rfl) trivial ?_
          exact WO_nil rfl ⟨rfl, by first | rfl | (rw [hb3009]; first | done | rfl)⟩
        · refine WO_step 6 [0, 1, 2] [0, 4, 6, 10, 11, 12, 35, 36, 37, 46, 52] (True ∧ (True ∧ (True ∧ True))) ⟨[(0, .one (.e (.sl 0 0 x1.length))), (4, .one (.e (.p 1 0))), (6, .one (.e (.p 2 0))), (10, .one (.e (.sl 0 0 x1.length))), (11, I ((x1.length : Nat) : Int)), (12, I i2507), (35, .one (.e (.sl 0 0 i2507.toNat))), (36, I ((i2507.toNat : Nat) : Int)), (37, I i2974), (46, B false), (52, B (decide (((x1.getD i2974.toNat dver).tm) = ((x1.getD i2507.toNat dver).tm))))], [.row .ver x1 false, .cells [cI ((x1.getD i2507.toNat dver).node), cI ((x1.getD i2507.toNat dver).value), cI ((x1.getD i2507.toNat dver).tm)], .cells [cI ((x1.getD i2974.toNat dver).node), cI ((x1.getD i2974.toNat dver).value), cI ((x1.getD i2974.toNat dver).tm)]]⟩ (by kernel_rfl) ⟨trivial, trivial, trivial, trivial⟩ ?_
          refine WO_if 52 rfl (fun hb3010 => ?_) (fun hb3010 => ?_)
          · refine WO_step 7 [0, 1] [0, 4, 10, 11, 12, 35, 36, 37, 59] (True ∧ (True ∧ (True ∧ True))) ⟨[(0, .one (.e (.sl 0 0 x1.length))), (4, .one (.e (.p 1 0))), (10, .one (.e (.sl 0 0 x1.length))), (11, I ((x1.length : Nat) : Int)), (12, I i2507), (35, .one (.e (.sl 0 0 i2507.toNat))), (36, I ((i2507.toNat : Nat) : Int)), (37, I i2974), (59, B (decide (((x1.getD i2974.toNat dver).node) = ((x1.getD i2507.toNat dver).node))))], [.row .ver x1 false, .cells [cI ((x1.getD i2507.toNat dver).node), cI ((x1.getD i2507.toNat dver).value), cI ((x1.getD i2507.toNat dver).tm)]]⟩ (by kernel_rfl) ⟨trivial, trivial, trivial, trivial⟩ ?_
            exact WO_nil rfl ⟨rfl, by first | rfl | (simp only [hb3009, hb3010]; first | done | rfl)⟩
          · refine WO_step 7 [0, 1] [0, 4, 10, 11, 12, 35, 36, 37, 59] True ⟨[(0, .one (.e (.sl 0 0 x1.length))), (4, .one (.e (.p 1 0))), (10, .one (.e (.sl 0 0 x1.length))), (11, I ((x1.length : Nat) : Int)), (12, I i2507), (35, .one (.e (.sl 0 0 i2507.toNat))), (36, I ((i2507.toNat : Nat) : Int)), (37, I i2974), (59, B false)], [.row .ver x1 false, .cells [cI ((x1.getD i2507.toNat dver).node), cI ((x1.getD i2507.toNat dver).value), cI ((x1.getD i2507.toNat dver).tm)]]⟩ (by kernel_rfl) trivial ?_
            exact WO_nil rfl ⟨rfl, by first | rfl | (simp only [hb3009, hb3010]; first | done | rfl)⟩
      · refine thenS_n ?_
        refine iteO_e h (fun hb3012 h => W_true rfl hb3012 ?_) (fun hb3012 h => W_false rfl hb3012 ?_)
        · refine W_seq ?_
          refine W_region ?_
          refine WO_step 1 [0] [2] True ⟨[(2, B false)], [.row .ver x1 false]⟩ (by kernel_rfl) trivial ?_
          refine WO_nil rfl ?_
          refine thenS_n ?_
          refine W_ret ?_
          refine blockS_r ?_
          refine thenS_r ?_
          refine thenS_r ?_
          cases h
          exact And.intro rfl rfl
        · refine W_sub [0, 1] [0, 4, 10, 11, 12, 35, 36, 37] (st' := ⟨[(0, .one (.e (.sl 0 0 x1.length))), (4, .one (.e (.p 1 0))), (10, .one (.e (.sl 0 0 x1.length))), (11, I ((x1.length : Nat) : Int)), (12, I i2507), (35, .one (.e (.sl 0 0 i2507.toNat))), (36, I ((i2507.toNat : Nat) : Int)), (37, I i2974)], [.row .ver x1 false, .cells [cI ((x1.getD i2507.toNat dver).node), cI ((x1.getD i2507.toNat dver).value), cI ((x1.getD i2507.toNat dver).tm)]]⟩) (by kernel_rfl) ?_
          refine W_skip ?_
          refine blockS_n ?_
          refine thenS_n ?_
          refine W_region ?_
          refine WO_step 2 [0, 1] [0, 4, 10, 11, 12, 35, 36, 37] (True ∧ True) ⟨[(0, .one (.e (.sl 0 0 x1.length))), (4, .one (.e (.p 1 0))), (10, .one (.e (.sl 0 0 x1.length))), (11, I ((x1.length : Nat) : Int)), (12, I i2507), (35, .one (.e (.sl 0 0 i2507.toNat))), (36, I ((i2507.toNat : Nat) : Int)), (37, I (w64 (i2974 + 1)))], [.row .ver x1 false, .cells [cI ((x1.getD i2507.toNat dver).node), cI ((x1.getD i2507.toNat dver).value), cI ((x1.getD i2507.toNat dver).tm)]]⟩ (by kernel_rfl) ⟨trivial, trivial⟩ ?_
          refine WO_nil rfl ?_
          refine thenS_n ?_
          exact ih _ h
    · refine W_sub [0] [0, 10, 11, 12] (st' := ⟨[(0, .one (.e (.sl 0 0 x1.length))), (10, .one (.e (.sl 0 0 x1.length))), (11, I ((x1.length : Nat) : Int)), (12, I i2507)], [.row .ver x1 false]⟩) (by kernel_rfl) ?_
      refine W_exit ?_
      refine thenS_e ?_
      refine thenS_e ?_
      cases h
      exact And.intro rfl rfl

def impl_ValidVersions_L48 (x1 : List Ver) : Nat → Int → Option ((Unit) ⊕ (Unit))
| 0, _ => none
| n + 1, i2507 =>
 iteO (decide (i2507 < ((x1.length : Nat) : Int)))
 (guardO (0 ≤ i2507 ∧ i2507 < ((x1.length : Nat) : Int)) <|
 iteO ((!(impl_within ((x1.getD i2507.toNat dver).node) 0 11)) || ((!(impl_within ((x1.getD i2507.toNat dver).value) (-1000) 1000)) || (!(impl_within ((x1.getD i2507.toNat dver).tm) 0 100))))
 (some (.inl ()))
 (guardO (0 ≤ i2507 ∧ i2507 ≤ ((x1.length : Nat) : Int)) <|
 bindO (impl_ValidVersions_L52 x1 i2507 n 0) fun v3013 =>
 match v3013 with
 | (.inl _) => (some (.inl ()))
 | (.inr _) => (impl_ValidVersions_L48 x1 n (w64 (i2507 + 1)))
))
 (some (.inr ()))

theorem impl_ValidVersions_L48_ok (w : World) (X : Nat → Prop) (θ : List Loc) (x1 : List Ver) (v : (Unit) ⊕ (Unit)) : ∀ (n : Nat) (i2507 : Int), impl_ValidVersions_L48 x1 n i2507 = some v → WL EE ⟨w, X, θ, 62, 1⟩ (subC [1, 1, 0, 1, 4, 4] (bodyC Try.f20)) (fun (e : Exit) (s : St) => (match v with | (.inl _) => e = .ret ∧ s = ⟨[(2, B false)], [.row .ver x1 false]⟩ | (.inr _) => e = .exit 0 ∧ s = ⟨[], [.row .ver x1 false]⟩ : Prop)) ⟨[(0, .one (.e (.sl 0 0 x1.length))), (10, .one (.e (.sl 0 0 x1.length))), (11, I ((x1.length : Nat) : Int)), (12, I i2507)], [.row .ver x1 false]⟩ := by
  intro n
  induction n with
  | zero => intro _ h; exact none_e h
  | succ n ih =>
    intro i2507 h
    rw [impl_ValidVersions_L48] at h
    refine WL_round ?_
    refine W_seq ?_
    refine W_region ?_
    refine WO_step 1 [0] [0, 10, 11, 12, 13] (True ∧ True) ⟨[(0, .one (.e (.sl 0 0 x1.length))), (10, .one (.e (.sl 0 0 x1.length))), (11, I ((x1.length : Nat) : Int)), (12, I i2507), (13, B (decide (i2507 < ((x1.length : Nat) : Int))))], [.row .ver x1 false]⟩ (by kernel_rfl) ⟨trivial, trivial⟩ ?_
    refine WO_nil rfl ?_
    refine thenS_n ?_
    refine W_seq ?_
    refine iteO_e h (fun hb2763 h => W_true rfl hb2763 ?_) (fun hb2763 h => W_false rfl hb2763 ?_)
    · refine W_sub [0] [0, 10, 11, 12] (st' := ⟨[(0, .one (.e (.sl 0 0 x1.length))), (10, .one (.e (.sl 0 0 x1.length))), (11, I ((x1.length : Nat) : Int)), (12, I i2507)], [.row .ver x1 false]⟩) (by kernel_rfl) ?_
      refine W_skip ?_
      refine thenS_n ?_
      refine W_seq ?_
      refine W_block ?_
      refine W_seq ?_
      refine W_region ?_
      refine guardO_e h (fun hg2889 h => ?_)
      refine WO_step 6 [0, 1] [0, 3, 4, 10, 11, 12] ((0 ≤ i2507 ∧ i2507 < ((x1.length : Nat) : Int)) ∧ (True ∧ (True ∧ (True ∧ True)))) ⟨[(0, .one (.e (.sl 0 0 x1.length))), (3, I i2507), (4, .one (.e (.p 1 0))), (10, .one (.e (.sl 0 0 x1.length))), (11, I ((x1.length : Nat) : Int)), (12, I i2507)], [.row .ver x1 false, .cells [cI ((x1.getD i2507.toNat dver).node), cI ((x1.getD i2507.toNat dver).value), cI ((x1.getD i2507.toNat dver).tm)]]⟩ (by kernel_rfl) ⟨hg2889, trivial, trivial, trivial, trivial⟩ ?_
      refine WO_nil rfl ?_
      refine thenS_n ?_
      refine W_seq ?_
      refine W_seq ?_
      refine W_region ?_
      refine WO_step 2 [0, 1] [0, 3, 4, 10, 11, 12, 18] (True ∧ True) ⟨[(0, .one (.e (.sl 0 0 x1.length))), (3, I i2507), (4, .one (.e (.p 1 0))), (10, .one (.e (.sl 0 0 x1.length))), (11, I ((x1.length : Nat) : Int)), (12, I i2507), (18, I ((x1.getD i2507.toNat dver).node))], [.row .ver x1 false, .cells [cI ((x1.getD i2507.toNat dver).node), cI ((x1.getD i2507.toNat dver).value), cI ((x1.getD i2507.toNat dver).tm)]]⟩ (by kernel_rfl) ⟨trivial, trivial⟩ ?_
      refine WO_call [] Try.f37 rfl rfl rfl (by kernel_rfl) rfl rfl (by kernel_rfl) (impl_within_ok ((x1.getD i2507.toNat dver).node) 0 11) (trivial) rfl ?_
      refine WO_step 2 [0, 1] [0, 3, 4, 10, 11, 12, 21] True ⟨[(0, .one (.e (.sl 0 0 x1.length))), (3, I i2507), (4, .one (.e (.p 1 0))), (10, .one (.e (.sl 0 0 x1.length))), (11, I ((x1.length : Nat) : Int)), (12, I i2507), (21, B (!(impl_within ((x1.getD i2507.toNat dver).node) 0 11)))], [.row .ver x1 false, .cells [cI ((x1.getD i2507.toNat dver).node), cI ((x1.getD i2507.toNat dver).value), cI ((x1.getD i2507.toNat dver).tm)]]⟩ (by kernel_rfl) trivial ?_
      refine WO_thru ⟨[(0, .one (.e (.sl 0 0 x1.length))), (3, I i2507), (4, .one (.e (.p 1 0))), (10, .one (.e (.sl 0 0 x1.length))), (11, I ((x1.length : Nat) : Int)), (12, I i2507), (32, B ((!(impl_within ((x1.getD i2507.toNat dver).node) 0 11)) || ((!(impl_within ((x1.getD i2507.toNat dver).value) (-1000) 1000)) || (!(impl_within ((x1.getD i2507.toNat dver).tm) 0 100)))))], [.row .ver x1 false, .cells [cI ((x1.getD i2507.toNat dver).node), cI ((x1.getD i2507.toNat dver).value), cI ((x1.getD i2507.toNat dver).tm)]]⟩ ?_ ?_
      · refine WO_if 21 rfl (fun hb2893 => ?_) (fun hb2893 => ?_)
        · refine WO_step 11 [0, 1] [0, 3, 4, 10, 11, 12, 32] True ⟨[(0, .one (.e (.sl 0 0 x1.length))), (3, I i2507), (4, .one (.e (.p 1 0))), (10, .one (.e (.sl 0 0 x1.length))), (11, I ((x1.length : Nat) : Int)), (12, I i2507), (32, B true)], [.row .ver x1 false, .cells [cI ((x1.getD i2507.toNat dver).node), cI ((x1.getD i2507.toNat dver).value), cI ((x1.getD i2507.toNat dver).tm)]]⟩ (by kernel_rfl) trivial ?_
          exact WO_nil rfl ⟨rfl, by first | rfl | (rw [hb2893]; first | done | rfl)⟩
        · refine WO_step 2 [0, 1] [0, 3, 4, 10, 11, 12, 21, 23] (True ∧ True) ⟨[(0, .one (.e (.sl 0 0 x1.length))), (3, I i2507), (4, .one (.e (.p 1 0))), (10, .one (.e (.sl 0 0 x1.length))), (11, I ((x1.length : Nat) : Int)), (12, I i2507), (21, B false), (23, I ((x1.getD i2507.toNat dver).value))], [.row .ver x1 false, .cells [cI ((x1.getD i2507.toNat dver).node), cI ((x1.getD i2507.toNat dver).value), cI ((x1.getD i2507.toNat dver).tm)]]⟩ (by kernel_rfl) ⟨trivial, trivial⟩ ?_
          refine WO_call [] Try.f37 rfl rfl rfl (by kernel_rfl) rfl rfl (by kernel_rfl) (impl_within_ok ((x1.getD i2507.toNat dver).value) (-1000) 1000) (trivial) rfl ?_
          refine WO_step 3 [0, 1] [0, 3, 4, 10, 11, 12, 27] True ⟨[(0, .one (.e (.sl 0 0 x1.length))), (3, I i2507), (4, .one (.e (.p 1 0))), (10, .one (.e (.sl 0 0 x1.length))), (11, I ((x1.length : Nat) : Int)), (12, I i2507), (27, B (!(impl_within ((x1.getD i2507.toNat dver).value) (-1000) 1000)))], [.row .ver x1 false, .cells [cI ((x1.getD i2507.toNat dver).node), cI ((x1.getD i2507.toNat dver).value), cI ((x1.getD i2507.toNat dver).tm)]]⟩ (by kernel_rfl) trivial ?_
          refine WO_if 27 rfl (fun hb2894 => ?_) (fun hb2894 => ?_)
          · refine WO_step 5 [0, 1] [0, 3, 4, 10, 11, 12, 32] True ⟨[(0, .one (.e (.sl 0 0 x1.length))), (3, I i2507), (4, .one (.e (.p 1 0))), (10, .one (.e (.sl 0 0 x1.length))), (11, I ((x1.length : Nat) : Int)), (12, I i2507), (32, B true)], [.row .ver x1 false, .cells [cI ((x1.getD i2507.toNat dver).node), cI ((x1.getD i2507.toNat dver).value), cI ((x1.getD i2507.toNat dver).tm)]]⟩ (by kernel_rfl) trivial ?_
            exact WO_nil rfl ⟨rfl, by first | rfl | (simp only [hb2893, hb2894]; first | done | rfl)⟩
          · refine WO_step 2 [0, 1] [0, 3, 4, 10, 11, 12, 27, 29] (True ∧ True) ⟨[(0, .one (.e (.sl 0 0 x1.length))), (3, I i2507), (4, .one (.e (.p 1 0))), (10, .one (.e (.sl 0 0 x1.length))), (11, I ((x1.length : Nat) : Int)), (12, I i2507), (27, B false), (29, I ((x1.getD i2507.toNat dver).tm))], [.row .ver x1 false, .cells [cI ((x1.getD i2507.toNat dver).node), cI ((x1.getD i2507.toNat dver).value), cI ((x1.getD i2507.toNat dver).tm)]]⟩ (by kernel_rfl) ⟨trivial, trivial⟩ ?_
            refine WO_call [] Try.f37 rfl rfl rfl (by kernel_rfl) rfl rfl (by kernel_rfl) (impl_within_ok ((x1.getD i2507.toNat dver).tm) 0 100) (trivial) rfl ?_
            refine WO_step 2 [0, 1] [0, 3, 4, 10, 11, 12, 32] True ⟨[(0, .one (.e (.sl 0 0 x1.length))), (3, I i2507), (4, .one (.e (.p 1 0))), (10, .one (.e (.sl 0 0 x1.length))), (11, I ((x1.length : Nat) : Int)), (12, I i2507), (32, B (!(impl_within ((x1.getD i2507.toNat dver).tm) 0 100)))], [.row .ver x1 false, .cells [cI ((x1.getD i2507.toNat dver).node), cI ((x1.getD i2507.toNat dver).value), cI ((x1.getD i2507.toNat dver).tm)]]⟩ (by kernel_rfl) trivial ?_
            exact WO_nil rfl ⟨rfl, by first | rfl | (simp only [hb2893, hb2894]; first | done | rfl)⟩
      · refine thenS_n ?_
        refine iteO_e h (fun hb2896 h => W_true rfl hb2896 ?_) (fun hb2896 h => W_false rfl hb2896 ?_)
        · refine W_seq ?_
          refine W_region ?_
          refine WO_step 1 [0] [2] True ⟨[(2, B false)], [.row .ver x1 false]⟩ (by kernel_rfl) trivial ?_
          refine WO_nil rfl ?_
          refine thenS_n ?_
          refine W_ret ?_
          refine thenS_r ?_
          refine blockS_r ?_
          refine thenS_r ?_
          refine thenS_r ?_
          cases h
          exact And.intro rfl rfl
        · refine W_sub [0, 1] [0, 3, 4, 10, 11, 12] (st' := ⟨[(0, .one (.e (.sl 0 0 x1.length))), (3, I i2507), (4, .one (.e (.p 1 0))), (10, .one (.e (.sl 0 0 x1.length))), (11, I ((x1.length : Nat) : Int)), (12, I i2507)], [.row .ver x1 false, .cells [cI ((x1.getD i2507.toNat dver).node), cI ((x1.getD i2507.toNat dver).value), cI ((x1.getD i2507.toNat dver).tm)]]⟩) (by kernel_rfl) ?_
          refine W_skip ?_
          refine thenS_n ?_
          refine W_seq ?_
          refine W_region ?_
          refine guardO_e h (fun hg2897 h => ?_)
          refine WO_step 5 [0, 1] [0, 4, 10, 11, 12, 35, 36, 37] ((0 ≤ i2507 ∧ i2507 ≤ ((x1.length : Nat) : Int)) ∧ (True ∧ True)) ⟨[(0, .one (.e (.sl 0 0 x1.length))), (4, .one (.e (.p 1 0))), (10, .one (.e (.sl 0 0 x1.length))), (11, I ((x1.length : Nat) : Int)), (12, I i2507), (35, .one (.e (.sl 0 0 i2507.toNat))), (36, I ((i2507.toNat : Nat) : Int)), (37, I 0)], [.row .ver x1 false, .cells [cI ((x1.getD i2507.toNat dver).node), cI ((x1.getD i2507.toNat dver).value), cI ((x1.getD i2507.toNat dver).tm)]]⟩ (by kernel_rfl) ⟨hg2897, trivial, trivial⟩ ?_
          refine WO_nil rfl ?_
          refine thenS_n ?_
          refine W_block ?_
          refine W_loop ?_
          refine bindO_e h (fun v3013 hv3013 h => ?_)
          refine WL_cut (impl_ValidVersions_L52_ok w X θ x1 i2507 v3013 n 0 hv3013) ?_
          rcases v3013 with _ | _
          · rintro _ _ ⟨rfl, rfl⟩
            refine blockS_r ?_
            refine blockS_r ?_
            refine thenS_r ?_
            refine thenS_r ?_
            cases h
            exact And.intro rfl rfl
          · rintro _ _ ⟨rfl, rfl⟩
            refine blockS_y ?_
            refine blockS_n ?_
            refine thenS_n ?_
            refine W_region ?_
            refine WO_step 2 [0] [0, 10, 11, 12] (True ∧ True) ⟨[(0, .one (.e (.sl 0 0 x1.length))), (10, .one (.e (.sl 0 0 x1.length))), (11, I ((x1.length : Nat) : Int)), (12, I (w64 (i2507 + 1)))], [.row .ver x1 false]⟩ (by kernel_rfl) ⟨trivial, trivial⟩ ?_
            refine WO_nil rfl ?_
            refine thenS_n ?_
            exact ih _ h
    · refine W_sub [0] [] (st' := ⟨[], [.row .ver x1 false]⟩) (by kernel_rfl) ?_
      refine W_exit ?_
      refine thenS_e ?_
      refine thenS_e ?_
      cases h
      exact And.intro rfl rfl

def impl_ValidVersions (n : Nat) (x1 : List Ver) : Option (Bool) :=
 iteO (decide (16 < ((x1.length : Nat) : Int)))
 (some false)
 (bindO (impl_ValidVersions_L48 x1 n 0) fun v3014 =>
 match v3014 with
 | (.inl _) => (some false)
 | (.inr _) => (some true)
)

theorem impl_ValidVersions_ok (n : Nat) (x1 : List Ver) (b1508 : Bool) (h : impl_ValidVersions n x1 = some b1508) : FOk EE 20 [.one (.e (.sl 0 0 x1.length))] [.row .ver x1 false] (B b1508) [.row .ver x1 false] := by
  unfold impl_ValidVersions at h
  refine FOk_of_W 62 1 Try.func20 rfl rfl (Nat.le_of_ble_eq_true rfl) rfl (fun w X θ => ?_)
  refine W_seq ?_
  refine W_region ?_
  refine WO_step 1 [0] [0] True ⟨[(0, .one (.e (.sl 0 0 x1.length)))], [.row .ver x1 false]⟩ (by kernel_rfl) trivial ?_
  refine WO_nil rfl ?_
  refine thenS_n ?_
  refine W_seq ?_
  refine W_seq ?_
  refine W_region ?_
  refine WO_step 3 [0] [0, 9] (True ∧ (True ∧ True)) ⟨[(0, .one (.e (.sl 0 0 x1.length))), (9, B (decide (16 < ((x1.length : Nat) : Int))))], [.row .ver x1 false]⟩ (by kernel_rfl) ⟨trivial, trivial, trivial⟩ ?_
  refine WO_nil rfl ?_
  refine thenS_n ?_
  refine iteO_e h (fun hb1510 h => W_true rfl hb1510 ?_) (fun hb1510 h => W_false rfl hb1510 ?_)
  · refine W_seq ?_
    refine W_region ?_
    refine WO_step 1 [0] [2] True ⟨[(2, B false)], [.row .ver x1 false]⟩ (by kernel_rfl) trivial ?_
    refine WO_nil rfl ?_
    refine thenS_n ?_
    refine W_ret ?_
    refine thenS_r ?_
    cases h
    exact ⟨[0], True, by kernel_rfl, trivial⟩
  · refine W_sub [0] [0] (st' := ⟨[(0, .one (.e (.sl 0 0 x1.length)))], [.row .ver x1 false]⟩) (by kernel_rfl) ?_
    refine W_skip ?_
    refine thenS_n ?_
    refine W_seq ?_
    refine W_seq ?_
    refine W_region ?_
    refine WO_step 3 [0] [0, 10, 11, 12] (True ∧ True) ⟨[(0, .one (.e (.sl 0 0 x1.length))), (10, .one (.e (.sl 0 0 x1.length))), (11, I ((x1.length : Nat) : Int)), (12, I 0)], [.row .ver x1 false]⟩ (by kernel_rfl) ⟨trivial, trivial⟩ ?_
    refine WO_nil rfl ?_
    refine thenS_n ?_
    refine W_block ?_
    refine W_loop ?_
    refine bindO_e h (fun v3014 hv3014 h => ?_)
    refine WL_cut (impl_ValidVersions_L48_ok w X θ x1 v3014 n 0 hv3014) ?_
    rcases v3014 with _ | _
    · rintro _ _ ⟨rfl, rfl⟩
      refine blockS_r ?_
      refine thenS_r ?_
      cases h
      exact ⟨[0], True, by kernel_rfl, trivial⟩
    · rintro _ _ ⟨rfl, rfl⟩
      refine blockS_y ?_
      refine thenS_n ?_
      refine W_seq ?_
      refine W_region ?_
      refine WO_step 1 [0] [2] True ⟨[(2, B true)], [.row .ver x1 false]⟩ (by kernel_rfl) trivial ?_
      refine WO_nil rfl ?_
      refine thenS_n ?_
      refine W_ret ?_
      cases h
      exact ⟨[0], True, by kernel_rfl, trivial⟩

/- laws.eqVersion -/
def laws_eqVersion (x1 : Ver) (x2 : Ver) : Option (Bool) :=
 iteO (!decide (x1.node = x2.node))
 (some false)
 (iteO (!decide (x1.value = x2.value))
 (some false)
 (iteO (!decide (x1.tm = x2.tm))
 (some false)
 (some true)))

theorem laws_eqVersion_ok (x1 : Ver) (x2 : Ver) (b9 : Bool) (h : laws_eqVersion x1 x2 = some b9) : FOk EE 38 [AGG [cI x1.node, cI x1.value, cI x1.tm], AGG [cI x2.node, cI x2.value, cI x2.tm]] [] (B b9) [] := by
  unfold laws_eqVersion at h
  refine FOk_of_W 20 0 Try.func38 rfl rfl (Nat.le_of_ble_eq_true rfl) rfl (fun w X θ => ?_)
  refine W_seq ?_
  refine W_region ?_
  refine WO_step 3 [0, 1] [2, 3] (True ∧ (True ∧ True)) ⟨[(2, .one (.e (.p 0 0))), (3, .one (.e (.p 1 0)))], [.cells [cI x1.node, cI x1.value, cI x1.tm], .cells [cI x2.node, cI x2.value, cI x2.tm]]⟩ (by kernel_rfl) ⟨trivial, trivial, trivial⟩ ?_
  refine WO_nil rfl ?_
  refine thenS_n ?_
  refine W_seq ?_
  refine W_seq ?_
  refine W_region ?_
  refine WO_step 5 [0, 1] [2, 3, 9] (True ∧ (True ∧ (True ∧ True))) ⟨[(2, .one (.e (.p 0 0))), (3, .one (.e (.p 1 0))), (9, B (!decide (x1.node = x2.node)))], [.cells [cI x1.node, cI x1.value, cI x1.tm], .cells [cI x2.node, cI x2.value, cI x2.tm]]⟩ (by kernel_rfl) ⟨trivial, trivial, trivial, trivial⟩ ?_
  refine WO_nil rfl ?_
  refine thenS_n ?_
  refine iteO_e h (fun hb11 h => W_true rfl hb11 ?_) (fun hb11 h => W_false rfl hb11 ?_)
  · refine W_seq ?_
    refine W_region ?_
    refine WO_step 1 [] [4] True ⟨[(4, B false)], []⟩ (by kernel_rfl) trivial ?_
    refine WO_nil rfl ?_
    refine thenS_n ?_
    refine W_ret ?_
    refine thenS_r ?_
    cases h
    exact ⟨[], True, by kernel_rfl, trivial⟩
  · refine W_sub [0, 1] [2, 3] (st' := ⟨[(2, .one (.e (.p 0 0))), (3, .one (.e (.p 1 0)))], [.cells [cI x1.node, cI x1.value, cI x1.tm], .cells [cI x2.node, cI x2.value, cI x2.tm]]⟩) (by kernel_rfl) ?_
    refine W_skip ?_
    refine thenS_n ?_
    refine W_seq ?_
    refine W_seq ?_
    refine W_region ?_
    refine WO_step 5 [0, 1] [2, 3, 14] (True ∧ (True ∧ (True ∧ True))) ⟨[(2, .one (.e (.p 0 0))), (3, .one (.e (.p 1 0))), (14, B (!decide (x1.value = x2.value)))], [.cells [cI x1.node, cI x1.value, cI x1.tm], .cells [cI x2.node, cI x2.value, cI x2.tm]]⟩ (by kernel_rfl) ⟨trivial, trivial, trivial, trivial⟩ ?_
    refine WO_nil rfl ?_
    refine thenS_n ?_
    refine iteO_e h (fun hb13 h => W_true rfl hb13 ?_) (fun hb13 h => W_false rfl hb13 ?_)
    · refine W_seq ?_
      refine W_region ?_
      refine WO_step 1 [] [4] True ⟨[(4, B false)], []⟩ (by kernel_rfl) trivial ?_
      refine WO_nil rfl ?_
      refine thenS_n ?_
      refine W_ret ?_
      refine thenS_r ?_
      cases h
      exact ⟨[], True, by kernel_rfl, trivial⟩
    · refine W_sub [0, 1] [2, 3] (st' := ⟨[(2, .one (.e (.p 0 0))), (3, .one (.e (.p 1 0)))], [.cells [cI x1.node, cI x1.value, cI x1.tm], .cells [cI x2.node, cI x2.value, cI x2.tm]]⟩) (by kernel_rfl) ?_
      refine W_skip ?_
      refine thenS_n ?_
      refine W_seq ?_
      refine W_seq ?_
      refine W_region ?_
      refine WO_step 5 [] [19] (True ∧ (True ∧ (True ∧ True))) ⟨[(19, B (!decide (x1.tm = x2.tm)))], []⟩ (by kernel_rfl) ⟨trivial, trivial, trivial, trivial⟩ ?_
      refine WO_nil rfl ?_
      refine thenS_n ?_
      refine iteO_e h (fun hb15 h => W_true rfl hb15 ?_) (fun hb15 h => W_false rfl hb15 ?_)
      · refine W_seq ?_
        refine W_region ?_
        refine WO_step 1 [] [4] True ⟨[(4, B false)], []⟩ (by kernel_rfl) trivial ?_
        refine WO_nil rfl ?_
        refine thenS_n ?_
        refine W_ret ?_
        refine thenS_r ?_
        cases h
        exact ⟨[], True, by kernel_rfl, trivial⟩
      · refine W_sub [] [] (st' := ⟨[], []⟩) (by kernel_rfl) ?_
        refine W_skip ?_
        refine thenS_n ?_
        refine W_seq ?_
        refine W_region ?_
        refine WO_step 1 [] [4] True ⟨[(4, B true)], []⟩ (by kernel_rfl) trivial ?_
        refine WO_nil rfl ?_
        refine thenS_n ?_
        refine W_ret ?_
        cases h
        exact ⟨[], True, by kernel_rfl, trivial⟩

/- laws.eqVersionS -/
def laws_eqVersionS_L4 (x1 : List Ver) (x2 : List Ver) : Nat → Int → Option ((Unit) ⊕ (Unit))
| 0, _ => none
| n + 1, i160 =>
 iteO (decide (i160 < ((x1.length : Nat) : Int)))
 (guardO (0 ≤ i160 ∧ i160 < ((x1.length : Nat) : Int)) <|
 guardO (0 ≤ i160 ∧ i160 < ((x2.length : Nat) : Int)) <|
 bindO (laws_eqVersion (x1.getD i160.toNat dver) (x2.getD i160.toNat dver)) fun b187 =>
 iteO (!b187)
 (some (.inl ()))
 (laws_eqVersionS_L4 x1 x2 n (w64 (i160 + 1))))
 (some (.inr ()))

theorem laws_eqVersionS_L4_ok (w : World) (X : Nat → Prop) (θ : List Loc) (x1 : List Ver) (x2 : List Ver) (v : (Unit) ⊕ (Unit)) : ∀ (n : Nat) (i160 : Int), laws_eqVersionS_L4 x1 x2 n i160 = some v → WL EE ⟨w, X, θ, 27, 2⟩ (subC [1, 1, 0, 1, 4, 4] (bodyC Try.f21)) (fun (e : Exit) (s : St) => (match v with | (.inl _) => e = .ret ∧ s = ⟨[(4, B false)], [.row .ver x1 false, .row .ver x2 false]⟩ | (.inr _) => e = .exit 0 ∧ s = ⟨[], [.row .ver x1 false, .row .ver x2 false]⟩ : Prop)) ⟨[(0, .one (.e (.sl 0 0 x1.length))), (1, .one (.e (.sl 1 0 x2.length))), (5, I i160)], [.row .ver x1 false, .row .ver x2 false]⟩ := by
  intro n
  induction n with
  | zero => intro _ h; exact none_e h
  | succ n ih =>
    intro i160 h
    rw [laws_eqVersionS_L4] at h
    refine WL_round ?_
    refine W_seq ?_
    refine W_seq ?_
    refine W_region ?_
    refine WO_step 4 [0, 1] [0, 1, 5, 14] (True ∧ (True ∧ True)) ⟨[(0, .one (.e (.sl 0 0 x1.length))), (1, .one (.e (.sl 1 0 x2.length))), (5, I i160), (14, B (decide (i160 < ((x1.length : Nat) : Int))))], [.row .ver x1 false, .row .ver x2 false]⟩ (by kernel_rfl) ⟨trivial, trivial, trivial⟩ ?_
    refine WO_nil rfl ?_
    refine thenS_n ?_
    refine iteO_e h (fun hb178 h => W_true rfl hb178 ?_) (fun hb178 h => W_false rfl hb178 ?_)
    · refine W_sub [0, 1] [0, 1, 5] (st' := ⟨[(0, .one (.e (.sl 0 0 x1.length))), (1, .one (.e (.sl 1 0 x2.length))), (5, I i160)], [.row .ver x1 false, .row .ver x2 false]⟩) (by kernel_rfl) ?_
      refine W_skip ?_
      refine thenS_n ?_
      refine W_seq ?_
      refine W_block ?_
      refine W_seq ?_
      refine guardO_e h (fun hg185 h => ?_)
      refine guardO_e h (fun hg186 h => ?_)
      refine bindO_e h (fun b187 hc188 h => ?_)
      refine W_cut (Q' := fun (e : Exit) (s : St) => e = .normal ∧ s = ⟨[(0, .one (.e (.sl 0 0 x1.length))), (1, .one (.e (.sl 1 0 x2.length))), (5, I i160), (26, B (!b187))], [.row .ver x1 false, .row .ver x2 false]⟩) ?_ ?_
      · refine W_draw [] false (by kernel_rfl) (by kernel_rfl) ?_
        refine WD_takeK [0, 1, 2, 3, 4, 5, 6, 7] [0, 1, 5, 20, 24] [0, 1, 5, 20, 24] (φ := ((0 ≤ i160 ∧ i160 < ((x1.length : Nat) : Int)) ∧ (0 ≤ i160 ∧ i160 < ((x1.length : Nat) : Int)) ∧ (True ∧ True ∧ ((0 ≤ i160 ∧ i160 < ((x2.length : Nat) : Int)) ∧ (0 ≤ i160 ∧ i160 < ((x2.length : Nat) : Int)) ∧ (True ∧ True ∧ True))))) (ls' := #[true, true, true, true, true, true, true, true, false, false]) (Ts' := [(0, .one (.e (.sl 0 0 x1.length))), (1, .one (.e (.sl 1 0 x2.length))), (5, I i160), (20, AGG [cI ((x1.getD i160.toNat dver).node), cI ((x1.getD i160.toNat dver).value), cI ((x1.getD i160.toNat dver).tm)]), (24, AGG [cI ((x2.getD i160.toNat dver).node), cI ((x2.getD i160.toNat dver).value), cI ((x2.getD i160.toNat dver).tm)])]) (st' := ⟨[(0, .one (.e (.sl 0 0 x1.length))), (1, .one (.e (.sl 1 0 x2.length))), (5, I i160), (20, AGG [cI ((x1.getD i160.toNat dver).node), cI ((x1.getD i160.toNat dver).value), cI ((x1.getD i160.toNat dver).tm)]), (24, AGG [cI ((x2.getD i160.toNat dver).node), cI ((x2.getD i160.toNat dver).value), cI ((x2.getD i160.toNat dver).tm)])], [.row .ver x1 false, .row .ver x2 false]⟩) (n2 := 2) (by kernel_rfl) ⟨hg185, hg185, trivial, trivial, hg186, hg186, trivial, trivial, trivial⟩ rfl ?_
        refine WD_all [8] (n := 1) (by kernel_rfl) rfl ?_
        refine WM_call [] Try.f38 rfl rfl (by kernel_rfl) rfl rfl (by kernel_rfl) (laws_eqVersion_ok (x1.getD i160.toNat dver) (x2.getD i160.toNat dver) b187 hc188) (trivial) rfl (And.intro rfl (And.intro rfl (trivial))) ?_
        refine WD_takeK [9] [0, 1, 5, 26] [0, 1, 5, 26] (φ := True) (ls' := #[true, true, true, true, true, true, true, true, true, true]) (Ts' := [(0, .one (.e (.sl 0 0 x1.length))), (1, .one (.e (.sl 1 0 x2.length))), (5, I i160), (26, B (!b187))]) (st' := ⟨[(0, .one (.e (.sl 0 0 x1.length))), (1, .one (.e (.sl 1 0 x2.length))), (5, I i160), (26, B (!b187))], [.row .ver x1 false, .row .ver x2 false]⟩) (n2 := 0) (by kernel_rfl) trivial rfl ?_
        exact WD_done [0, 1] [0, 1, 5, 26] (st' := ⟨[(0, .one (.e (.sl 0 0 x1.length))), (1, .one (.e (.sl 1 0 x2.length))), (5, I i160), (26, B (!b187))], [.row .ver x1 false, .row .ver x2 false]⟩) (by kernel_rfl) (by kernel_rfl) (And.intro rfl rfl)
      · rintro _ _ ⟨rfl, rfl⟩
        refine thenS_n ?_
        refine iteO_e h (fun hb190 h => W_true rfl hb190 ?_) (fun hb190 h => W_false rfl hb190 ?_)
        · refine W_seq ?_
          refine W_region ?_
          refine WO_step 1 [0, 1] [4] True ⟨[(4, B false)], [.row .ver x1 false, .row .ver x2 false]⟩ (by kernel_rfl) trivial ?_
          refine WO_nil rfl ?_
          refine thenS_n ?_
          refine W_ret ?_
          refine blockS_r ?_
          refine thenS_r ?_
          refine thenS_r ?_
          cases h
          exact And.intro rfl rfl
        · refine W_sub [0, 1] [0, 1, 5] (st' := ⟨[(0, .one (.e (.sl 0 0 x1.length))), (1, .one (.e (.sl 1 0 x2.length))), (5, I i160)], [.row .ver x1 false, .row .ver x2 false]⟩) (by kernel_rfl) ?_
          refine W_skip ?_
          refine blockS_n ?_
          refine thenS_n ?_
          refine W_region ?_
          refine WO_step 3 [0, 1] [0, 1, 5] (True ∧ True) ⟨[(0, .one (.e (.sl 0 0 x1.length))), (1, .one (.e (.sl 1 0 x2.length))), (5, I (w64 (i160 + 1)))], [.row .ver x1 false, .row .ver x2 false]⟩ (by kernel_rfl) ⟨trivial, trivial⟩ ?_
          refine WO_nil rfl ?_
          refine thenS_n ?_
          exact ih _ h
    · refine W_sub [0, 1] [] (st' := ⟨[], [.row .ver x1 false, .row .ver x2 false]⟩) (by kernel_rfl) ?_
      refine W_exit ?_
      refine thenS_e ?_
      refine thenS_e ?_
      cases h
      exact And.intro rfl rfl

def laws_eqVersionS (n : Nat) (x1 : List Ver) (x2 : List Ver) : Option (Bool) :=
 iteO (!decide (((x1.length : Nat) : Int) = ((x2.length : Nat) : Int)))
 (some false)
 (bindO (laws_eqVersionS_L4 x1 x2 n 0) fun v191 =>
 match v191 with
 | (.inl _) => (some false)
 | (.inr _) => (some true)
)

theorem laws_eqVersionS_ok (n : Nat) (x1 : List Ver) (x2 : List Ver) (b97 : Bool) (h : laws_eqVersionS n x1 x2 = some b97) : FOk EE 21 [.one (.e (.sl 0 0 x1.length)), .one (.e (.sl 1 0 x2.length))] [.row .ver x1 false, .row .ver x2 false] (B b97) [.row .ver x1 false, .row .ver x2 false] := by
  unfold laws_eqVersionS at h
  refine FOk_of_W 27 2 Try.func21 rfl rfl (Nat.le_of_ble_eq_true rfl) rfl (fun w X θ => ?_)
  refine W_seq ?_
  refine W_region ?_
  refine WO_step 1 [0, 1] [0, 1] True ⟨[(0, .one (.e (.sl 0 0 x1.length))), (1, .one (.e (.sl 1 0 x2.length)))], [.row .ver x1 false, .row .ver x2 false]⟩ (by kernel_rfl) trivial ?_
  refine WO_nil rfl ?_
  refine thenS_n ?_
  refine W_seq ?_
  refine W_seq ?_
  refine W_region ?_
  refine WO_step 5 [0, 1] [0, 1, 10] (True ∧ (True ∧ (True ∧ True))) ⟨[(0, .one (.e (.sl 0 0 x1.length))), (1, .one (.e (.sl 1 0 x2.length))), (10, B (!decide (((x1.length : Nat) : Int) = ((x2.length : Nat) : Int))))], [.row .ver x1 false, .row .ver x2 false]⟩ (by kernel_rfl) ⟨trivial, trivial, trivial, trivial⟩ ?_
  refine WO_nil rfl ?_
  refine thenS_n ?_
  refine iteO_e h (fun hb99 h => W_true rfl hb99 ?_) (fun hb99 h => W_false rfl hb99 ?_)
  · refine W_seq ?_
    refine W_region ?_
    refine WO_step 1 [0, 1] [4] True ⟨[(4, B false)], [.row .ver x1 false, .row .ver x2 false]⟩ (by kernel_rfl) trivial ?_
    refine WO_nil rfl ?_
    refine thenS_n ?_
    refine W_ret ?_
    refine thenS_r ?_
    cases h
    exact ⟨[0, 1], True, by kernel_rfl, trivial⟩
  · refine W_sub [0, 1] [0, 1] (st' := ⟨[(0, .one (.e (.sl 0 0 x1.length))), (1, .one (.e (.sl 1 0 x2.length)))], [.row .ver x1 false, .row .ver x2 false]⟩) (by kernel_rfl) ?_
    refine W_skip ?_
    refine thenS_n ?_
    refine W_seq ?_
    refine W_seq ?_
    refine W_region ?_
    refine WO_step 1 [0, 1] [0, 1, 5] True ⟨[(0, .one (.e (.sl 0 0 x1.length))), (1, .one (.e (.sl 1 0 x2.length))), (5, I 0)], [.row .ver x1 false, .row .ver x2 false]⟩ (by kernel_rfl) trivial ?_
    refine WO_nil rfl ?_
    refine thenS_n ?_
    refine W_block ?_
    refine W_loop ?_
    refine bindO_e h (fun v191 hv191 h => ?_)
    refine WL_cut (laws_eqVersionS_L4_ok w X θ x1 x2 v191 n 0 hv191) ?_
    rcases v191 with _ | _
    · rintro _ _ ⟨rfl, rfl⟩
      refine blockS_r ?_
      refine thenS_r ?_
      cases h
      exact ⟨[0, 1], True, by kernel_rfl, trivial⟩
    · rintro _ _ ⟨rfl, rfl⟩
      refine blockS_y ?_
      refine thenS_n ?_
      refine W_seq ?_
      refine W_region ?_
      refine WO_step 1 [0, 1] [4] True ⟨[(4, B true)], [.row .ver x1 false, .row .ver x2 false]⟩ (by kernel_rfl) trivial ?_
      refine WO_nil rfl ?_
      refine thenS_n ?_
      refine W_ret ?_
      cases h
      exact ⟨[0, 1], True, by kernel_rfl, trivial⟩

/- laws.FnExactValidVersions -/
def laws_FnExactValidVersions (n : Nat) (x1 : List Ver) : Option (Bool) :=
 bindO (laws_szVersionS x1 1048576) fun i23 =>
 iteO (decide (i23 < 0))
 (some true)
 (bindO (laws_toVersionS n x1) fun x27 =>
 bindO (spec_ValidVersions n x27) fun b29 =>
 bindO (laws_toVersionS n x1) fun x31 =>
 bindO (impl_ValidVersions n x31) fun b33 =>
 iteO (!(b33 == b29))
 (some false)
 (bindO (laws_toVersionS n x1) fun x37 =>
 bindO (laws_eqVersionS n x31 x37) fun b39 =>
 iteO (!b39)
 (some false)
 (some true)))

theorem laws_FnExactValidVersions_ok (n : Nat) (x1 : List Ver) (b22 : Bool) (h : laws_FnExactValidVersions n x1 = some b22) : FOk EE 3 [.one (.e (.sl 0 0 x1.length))] [.row .ver x1 false] (B b22) [.row .ver x1 false] := by
  unfold laws_FnExactValidVersions at h
  refine FOk_of_W 27 1 Try.func3 rfl rfl (Nat.le_of_ble_eq_true rfl) rfl (fun w X θ => ?_)
  refine W_seq ?_
  refine W_region ?_
  refine WO_step 1 [0] [0] True ⟨[(0, .one (.e (.sl 0 0 x1.length)))], [.row .ver x1 false]⟩ (by kernel_rfl) trivial ?_
  refine WO_nil rfl ?_
  refine thenS_n ?_
  refine W_seq ?_
  refine W_region ?_
  refine WO_step 1 [0] [0, 3] True ⟨[(0, .one (.e (.sl 0 0 x1.length))), (3, I 1048576)], [.row .ver x1 false]⟩ (by kernel_rfl) trivial ?_
  refine WO_nil rfl ?_
  refine thenS_n ?_
  refine W_seq ?_
  refine W_region ?_
  refine WO_step 2 [0] [0, 7, 8] True ⟨[(0, .one (.e (.sl 0 0 x1.length))), (7, .one (.e (.sl 0 0 x1.length))), (8, I 1048576)], [.row .ver x1 false]⟩ (by kernel_rfl) trivial ?_
  refine bindO_e h (fun i23 hc24 h => ?_)
  refine WO_call [.ro 0] Try.f17 rfl rfl rfl (by kernel_rfl) rfl rfl (by kernel_rfl) (laws_szVersionS_ok x1 1048576 i23 hc24) (And.intro (And.intro rfl rfl) (trivial)) rfl ?_
  refine WO_step 1 [0] [0, 3] True ⟨[(0, .one (.e (.sl 0 0 x1.length))), (3, I i23)], [.row .ver x1 false]⟩ (by kernel_rfl) trivial ?_
  refine WO_nil rfl ?_
  refine thenS_n ?_
  refine W_seq ?_
  refine W_seq ?_
  refine W_region ?_
  refine WO_step 2 [0] [0, 11] (True ∧ True) ⟨[(0, .one (.e (.sl 0 0 x1.length))), (11, B (decide (i23 < 0)))], [.row .ver x1 false]⟩ (by kernel_rfl) ⟨trivial, trivial⟩ ?_
  refine WO_nil rfl ?_
  refine thenS_n ?_
  refine iteO_e h (fun hb26 h => W_true rfl hb26 ?_) (fun hb26 h => W_false rfl hb26 ?_)
  · refine W_seq ?_
    refine W_region ?_
    refine WO_step 1 [0] [2] True ⟨[(2, B true)], [.row .ver x1 false]⟩ (by kernel_rfl) trivial ?_
    refine WO_nil rfl ?_
    refine thenS_n ?_
    refine W_ret ?_
    refine thenS_r ?_
    cases h
    exact ⟨[0], True, by kernel_rfl, trivial⟩
  · refine W_sub [0] [0] (st' := ⟨[(0, .one (.e (.sl 0 0 x1.length)))], [.row .ver x1 false]⟩) (by kernel_rfl) ?_
    refine W_skip ?_
    refine thenS_n ?_
    refine W_seq ?_
    refine W_region ?_
    refine WO_step 1 [0] [0, 12] True ⟨[(0, .one (.e (.sl 0 0 x1.length))), (12, .one (.e (.sl 0 0 x1.length)))], [.row .ver x1 false]⟩ (by kernel_rfl) trivial ?_
    refine bindO_e h (fun x27 hc28 h => ?_)
    refine WO_call [.ro 0] Try.f19 rfl rfl rfl (by kernel_rfl) rfl rfl (by kernel_rfl) (laws_toVersionS_ok n x1 x27 hc28) (And.intro (And.intro rfl rfl) (trivial)) rfl ?_
    refine WO_sub [0, 1] [0, 13] (st' := ⟨[(0, .one (.e (.sl 0 0 x1.length))), (13, .one (.e (.sl 1 0 x27.length)))], [.row .ver x1 false, .row .ver x27 true]⟩) (by kernel_rfl) ?_
    refine bindO_e h (fun b29 hc30 h => ?_)
    refine WO_call [.ro 1] Try.f18 rfl rfl rfl (by kernel_rfl) rfl rfl (by kernel_rfl) (spec_ValidVersions_ok n x27 b29 hc30) (And.intro (And.intro rfl rfl) (trivial)) rfl ?_
    refine WO_step 1 [0] [0, 4] True ⟨[(0, .one (.e (.sl 0 0 x1.length))), (4, B b29)], [.row .ver x1 false]⟩ (by kernel_rfl) trivial ?_
    refine WO_nil rfl ?_
    refine thenS_n ?_
    refine W_seq ?_
    refine W_region ?_
    refine WO_step 1 [0] [0, 4, 15] True ⟨[(0, .one (.e (.sl 0 0 x1.length))), (4, B b29), (15, .one (.e (.sl 0 0 x1.length)))], [.row .ver x1 false]⟩ (by kernel_rfl) trivial ?_
    refine bindO_e h (fun x31 hc32 h => ?_)
    refine WO_call [.ro 0] Try.f19 rfl rfl rfl (by kernel_rfl) rfl rfl (by kernel_rfl) (laws_toVersionS_ok n x1 x31 hc32) (And.intro (And.intro rfl rfl) (trivial)) rfl ?_
    refine WO_step 1 [0, 1] [0, 4, 5] True ⟨[(0, .one (.e (.sl 0 0 x1.length))), (4, B b29), (5, .one (.e (.sl 1 0 x31.length)))], [.row .ver x1 false, .row .ver x31 true]⟩ (by kernel_rfl) trivial ?_
    refine WO_nil rfl ?_
    refine thenS_n ?_
    refine W_seq ?_
    refine W_region ?_
    refine WO_step 1 [0, 1] [0, 4, 5, 17] True ⟨[(0, .one (.e (.sl 0 0 x1.length))), (4, B b29), (5, .one (.e (.sl 1 0 x31.length))), (17, .one (.e (.sl 1 0 x31.length)))], [.row .ver x1 false, .row .ver x31 true]⟩ (by kernel_rfl) trivial ?_
    refine bindO_e h (fun b33 hc34 h => ?_)
    refine WO_call [.ro 1] Try.f20 rfl rfl rfl (by kernel_rfl) rfl rfl (by kernel_rfl) (impl_ValidVersions_ok n x31 b33 hc34) (And.intro (And.intro rfl rfl) (trivial)) rfl ?_
    refine WO_step 1 [0, 1] [0, 4, 5, 6] True ⟨[(0, .one (.e (.sl 0 0 x1.length))), (4, B b29), (5, .one (.e (.sl 1 0 x31.length))), (6, B b33)], [.row .ver x1 false, .row .ver x31 true]⟩ (by kernel_rfl) trivial ?_
    refine WO_nil rfl ?_
    refine thenS_n ?_
    refine W_seq ?_
    refine W_seq ?_
    refine W_region ?_
    refine WO_step 3 [0, 1] [0, 5, 21] (True ∧ True) ⟨[(0, .one (.e (.sl 0 0 x1.length))), (5, .one (.e (.sl 1 0 x31.length))), (21, B (!(b33 == b29)))], [.row .ver x1 false, .row .ver x31 true]⟩ (by kernel_rfl) ⟨trivial, trivial⟩ ?_
    refine WO_nil rfl ?_
    refine thenS_n ?_
    refine iteO_e h (fun hb36 h => W_true rfl hb36 ?_) (fun hb36 h => W_false rfl hb36 ?_)
    · refine W_seq ?_
      refine W_region ?_
      refine WO_step 1 [0] [2] True ⟨[(2, B false)], [.row .ver x1 false]⟩ (by kernel_rfl) trivial ?_
      refine WO_nil rfl ?_
      refine thenS_n ?_
      refine W_ret ?_
      refine thenS_r ?_
      cases h
      exact ⟨[0], True, by kernel_rfl, trivial⟩
    · refine W_sub [0, 1] [0, 5] (st' := ⟨[(0, .one (.e (.sl 0 0 x1.length))), (5, .one (.e (.sl 1 0 x31.length)))], [.row .ver x1 false, .row .ver x31 true]⟩) (by kernel_rfl) ?_
      refine W_skip ?_
      refine thenS_n ?_
      refine W_seq ?_
      refine W_seq ?_
      refine W_region ?_
      refine WO_step 2 [0, 1] [22, 23] True ⟨[(22, .one (.e (.sl 1 0 x31.length))), (23, .one (.e (.sl 0 0 x1.length)))], [.row .ver x1 false, .row .ver x31 true]⟩ (by kernel_rfl) trivial ?_
      refine bindO_e h (fun x37 hc38 h => ?_)
      refine WO_call [.ro 0] Try.f19 rfl rfl rfl (by kernel_rfl) rfl rfl (by kernel_rfl) (laws_toVersionS_ok n x1 x37 hc38) (And.intro (And.intro rfl rfl) (trivial)) rfl ?_
      refine WO_sub [0, 1, 2] [22, 24] (st' := ⟨[(22, .one (.e (.sl 1 0 x31.length))), (24, .one (.e (.sl 2 0 x37.length)))], [.row .ver x1 false, .row .ver x31 true, .row .ver x37 true]⟩) (by kernel_rfl) ?_
      refine bindO_e h (fun b39 hc40 h => ?_)
      refine WO_call [.ro 1, .ro 2] Try.f21 rfl rfl rfl (by kernel_rfl) rfl rfl (by kernel_rfl) (laws_eqVersionS_ok n x31 x37 b39 hc40) (And.intro (And.intro rfl rfl) (And.intro (And.intro rfl rfl) (trivial))) rfl ?_
      refine WO_step 1 [0] [26] True ⟨[(26, B (!b39))], [.row .ver x1 false]⟩ (by kernel_rfl) trivial ?_
      refine WO_nil rfl ?_
      refine thenS_n ?_
      refine iteO_e h (fun hb42 h => W_true rfl hb42 ?_) (fun hb42 h => W_false rfl hb42 ?_)
      · refine W_seq ?_
        refine W_region ?_
        refine WO_step 1 [0] [2] True ⟨[(2, B false)], [.row .ver x1 false]⟩ (by kernel_rfl) trivial ?_
        refine WO_nil rfl ?_
        refine thenS_n ?_
        refine W_ret ?_
        refine thenS_r ?_
        cases h
        exact ⟨[0], True, by kernel_rfl, trivial⟩
      · refine W_sub [0] [] (st' := ⟨[], [.row .ver x1 false]⟩) (by kernel_rfl) ?_
        refine W_skip ?_
        refine thenS_n ?_
        refine W_seq ?_
        refine W_region ?_
        refine WO_step 1 [0] [2] True ⟨[(2, B true)], [.row .ver x1 false]⟩ (by kernel_rfl) trivial ?_
        refine WO_nil rfl ?_
        refine thenS_n ?_
        refine W_ret ?_
        cases h
        exact ⟨[0], True, by kernel_rfl, trivial⟩

/- spec.newReader -/
def spec_newReader (x1 : List Int) : Option (Nat) :=
 bindO (iteO (decide (2000 < ((x1.length : Nat) : Int)))
 (guardO (0 ≤ (2000 : Int) ∧ (2000 : Int) ≤ ((x1.length : Nat) : Int)) <|
 some 2000)
 (some x1.length)) fun k11 =>
 some k11

theorem spec_newReader_ok (x1 : List Int) (k8 : Nat) (h : spec_newReader x1 = some k8) : FOk EE 40 [.one (.e (.sl 0 0 x1.length))] [.row .u8 x1 false] (.one (.e (.p 1 0))) [.row .u8 x1 false, .cells [.sl 0 0 k8, cI 0]] := by
  unfold spec_newReader at h
  refine FOk_of_W 11 1 Try.func40 rfl rfl (Nat.le_of_ble_eq_true rfl) rfl (fun w X θ => ?_)
  refine W_seq ?_
  refine W_region ?_
  refine WO_step 1 [0] [0] True ⟨[(0, .one (.e (.sl 0 0 x1.length)))], [.row .u8 x1 false]⟩ (by kernel_rfl) trivial ?_
  refine WO_nil rfl ?_
  refine thenS_n ?_
  refine W_seq ?_
  refine W_seq ?_
  refine W_region ?_
  refine WO_step 3 [0] [0, 5] (True ∧ (True ∧ True)) ⟨[(0, .one (.e (.sl 0 0 x1.length))), (5, B (decide (2000 < ((x1.length : Nat) : Int))))], [.row .u8 x1 false]⟩ (by kernel_rfl) ⟨trivial, trivial, trivial⟩ ?_
  refine WO_nil rfl ?_
  refine thenS_n ?_
  refine bindO_e h (fun k11 hk11 h => ?_)
  refine W_cut (Q' := fun (e : Exit) (s : St) => e = .normal ∧ s = ⟨[(0, .one (.e (.sl 0 0 k11)))], [.row .u8 x1 false]⟩) ?_ ?_
  · refine iteO_e hk11 (fun hb13 hk11 => W_true rfl hb13 ?_) (fun hb13 hk11 => W_false rfl hb13 ?_)
    · refine W_region ?_
      refine guardO_e hk11 (fun hg14 hk11 => ?_)
      refine WO_step 3 [0] [0] ((0 ≤ (2000 : Int) ∧ (2000 : Int) ≤ ((x1.length : Nat) : Int)) ∧ True) ⟨[(0, .one (.e (.sl 0 0 2000)))], [.row .u8 x1 false]⟩ (by kernel_rfl) ⟨hg14, trivial⟩ ?_
      refine WO_nil rfl ?_
      cases hk11
      exact And.intro rfl rfl
    · refine W_sub [0] [0] (st' := ⟨[(0, .one (.e (.sl 0 0 x1.length)))], [.row .u8 x1 false]⟩) (by kernel_rfl) ?_
      refine W_skip ?_
      cases hk11
      exact And.intro rfl rfl
  · rintro _ _ ⟨rfl, rfl⟩
    refine thenS_n ?_
    refine W_seq ?_
    refine W_region ?_
    refine WO_step 4 [0, 1] [2] (True ∧ True) ⟨[(2, .one (.e (.p 1 0)))], [.row .u8 x1 false, .cells [.sl 0 0 k11, cI 0]]⟩ (by kernel_rfl) ⟨trivial, trivial⟩ ?_
    refine WO_nil rfl ?_
    refine thenS_n ?_
    refine W_ret ?_
    cases h
    exact ⟨[0, 1], True, by kernel_rfl, trivial⟩

/- spec.reader).pick -/
def spec_reader_pick (x1 : List Int) (k2 : Nat) (i3 : Int) (i4 : Int) : Option (Int) :=
 iteO ((decide (i4 < 1)) || (decide (((k2 : Nat) : Int) = 0)))
 (some 0)
 (iteO (decide ((w64 ((w64 (i3 + 1)) - 1)) < ((k2 : Nat) : Int)))
 (guardO (0 ≤ (w64 ((w64 (i3 + 1)) - 1)) ∧ (w64 ((w64 (i3 + 1)) - 1)) < ((k2 : Nat) : Int)) <|
 guardO ((i4 : Int) ≠ 0) <|
 some ((w64 (x1.getD ((w64 ((w64 (i3 + 1)) - 1)).toNat) 0)).tmod i4))
 (guardO ((((k2 : Nat) : Int) : Int) ≠ 0) <|
 guardO (0 ≤ ((w64 ((w64 (i3 + 1)) - 1)).tmod ((k2 : Nat) : Int)) ∧ ((w64 ((w64 (i3 + 1)) - 1)).tmod ((k2 : Nat) : Int)) < ((k2 : Nat) : Int)) <|
 guardO ((((k2 : Nat) : Int) : Int) ≠ 0) <|
 guardO (0 ≤ ((w64 ((w64 ((w64 ((w64 (i3 + 1)) - 1)) * 7)) + 3)).tmod ((k2 : Nat) : Int)) ∧ ((w64 ((w64 ((w64 ((w64 (i3 + 1)) - 1)) * 7)) + 3)).tmod ((k2 : Nat) : Int)) < ((k2 : Nat) : Int)) <|
 guardO ((((k2 : Nat) : Int) : Int) ≠ 0) <|
 guardO ((i4 : Int) ≠ 0) <|
 some ((w64 (BitVec.ofInt 64 (w64 ((w64 ((w64 ((w64 ((w64 (x1.getD (((w64 ((w64 (i3 + 1)) - 1)).tmod ((k2 : Nat) : Int)).toNat) 0)) * 131)) + (w64 ((w64 (x1.getD (((w64 ((w64 ((w64 ((w64 (i3 + 1)) - 1)) * 7)) + 3)).tmod ((k2 : Nat) : Int)).toNat) 0)) * 1117)))) + (w64 ((w64 ((w64 (i3 + 1)) - 1)) * 29)))) + (w64 ((w64 ((w64 ((w64 (i3 + 1)) - 1)).tdiv ((k2 : Nat) : Int))) * 53)))) ^^^ BitVec.ofInt 64 (w64 ((w64 ((w64 ((w64 ((w64 ((w64 (x1.getD (((w64 ((w64 (i3 + 1)) - 1)).tmod ((k2 : Nat) : Int)).toNat) 0)) * 131)) + (w64 ((w64 (x1.getD (((w64 ((w64 ((w64 ((w64 (i3 + 1)) - 1)) * 7)) + 3)).tmod ((k2 : Nat) : Int)).toNat) 0)) * 1117)))) + (w64 ((w64 ((w64 (i3 + 1)) - 1)) * 29)))) + (w64 ((w64 ((w64 ((w64 (i3 + 1)) - 1)).tdiv ((k2 : Nat) : Int))) * 53)))).tdiv 64))).toNat).tmod i4)))

theorem spec_reader_pick_ok (x1 : List Int) (k2 : Nat) (i3 : Int) (i4 : Int) (i22 : Int) (h : spec_reader_pick x1 k2 i3 i4 = some i22) : FOk EE 42 [.one (.e (.p 0 0)), I i4] [.cells [.sl 1 0 k2, cI i3], .row .u8 x1 false] (I i22) [.cells [.sl 1 0 k2, cI (w64 (i3 + 1))], .row .u8 x1 false] := by
  unfold spec_reader_pick at h
  refine FOk_of_W 99 2 Try.func42 rfl rfl (Nat.le_of_ble_eq_true rfl) rfl (fun w X θ => ?_)
  refine W_seq ?_
  refine W_region ?_
  refine WO_step 1 [0, 1] [0, 1] True ⟨[(0, .one (.e (.p 0 0))), (1, I i4)], [.cells [.sl 1 0 k2, cI i3], .row .u8 x1 false]⟩ (by kernel_rfl) trivial ?_
  refine WO_nil rfl ?_
  refine thenS_n ?_
  refine W_seq ?_
  refine W_region ?_
  refine WO_step 9 [0, 1] [0, 1] (True ∧ (True ∧ (True ∧ True))) ⟨[(0, .one (.e (.p 0 0))), (1, I i4)], [.cells [.sl 1 0 k2, cI (w64 (i3 + 1))], .row .u8 x1 false]⟩ (by kernel_rfl) ⟨trivial, trivial, trivial, trivial⟩ ?_
  refine WO_nil rfl ?_
  refine thenS_n ?_
  refine W_seq ?_
  refine W_seq ?_
  refine W_region ?_
  refine WO_step 3 [0, 1] [0, 1, 17] (True ∧ True) ⟨[(0, .one (.e (.p 0 0))), (1, I i4), (17, B (decide (i4 < 1)))], [.cells [.sl 1 0 k2, cI (w64 (i3 + 1))], .row .u8 x1 false]⟩ (by kernel_rfl) ⟨trivial, trivial⟩ ?_
  refine WO_thru ⟨[(0, .one (.e (.p 0 0))), (1, I i4), (24, B ((decide (i4 < 1)) || (decide (((k2 : Nat) : Int) = 0))))], [.cells [.sl 1 0 k2, cI (w64 (i3 + 1))], .row .u8 x1 false]⟩ ?_ ?_
  · refine WO_if 17 rfl (fun hb25 => ?_) (fun hb25 => ?_)
    · refine WO_step 7 [0, 1] [0, 1, 24] True ⟨[(0, .one (.e (.p 0 0))), (1, I i4), (24, B true)], [.cells [.sl 1 0 k2, cI (w64 (i3 + 1))], .row .u8 x1 false]⟩ (by kernel_rfl) trivial ?_
      exact WO_nil rfl ⟨rfl, by first | rfl | (rw [hb25]; first | done | rfl)⟩
    · refine WO_step 7 [0, 1] [0, 1, 24] (True ∧ (True ∧ (True ∧ True))) ⟨[(0, .one (.e (.p 0 0))), (1, I i4), (24, B (decide (((k2 : Nat) : Int) = 0)))], [.cells [.sl 1 0 k2, cI (w64 (i3 + 1))], .row .u8 x1 false]⟩ (by kernel_rfl) ⟨trivial, trivial, trivial, trivial⟩ ?_
      exact WO_nil rfl ⟨rfl, by first | rfl | (rw [hb25]; first | done | rfl)⟩
  · refine thenS_n ?_
    refine iteO_e h (fun hb27 h => W_true rfl hb27 ?_) (fun hb27 h => W_false rfl hb27 ?_)
    · refine W_seq ?_
      refine W_region ?_
      refine WO_step 1 [0, 1] [4] True ⟨[(4, I 0)], [.cells [.sl 1 0 k2, cI (w64 (i3 + 1))], .row .u8 x1 false]⟩ (by kernel_rfl) trivial ?_
      refine WO_nil rfl ?_
      refine thenS_n ?_
      refine W_ret ?_
      refine thenS_r ?_
      cases h
      exact ⟨[0, 1], True, by kernel_rfl, trivial⟩
    · refine W_sub [0, 1] [0, 1] (st' := ⟨[(0, .one (.e (.p 0 0))), (1, I i4)], [.cells [.sl 1 0 k2, cI (w64 (i3 + 1))], .row .u8 x1 false]⟩) (by kernel_rfl) ?_
      refine W_skip ?_
      refine thenS_n ?_
      refine W_seq ?_
      refine W_region ?_
      refine WO_step 6 [0, 1] [0, 1, 5] (True ∧ (True ∧ True)) ⟨[(0, .one (.e (.p 0 0))), (1, I i4), (5, I (w64 ((w64 (i3 + 1)) - 1)))], [.cells [.sl 1 0 k2, cI (w64 (i3 + 1))], .row .u8 x1 false]⟩ (by kernel_rfl) ⟨trivial, trivial, trivial⟩ ?_
      refine WO_nil rfl ?_
      refine thenS_n ?_
      refine W_seq ?_
      refine W_seq ?_
      refine W_region ?_
      refine WO_step 7 [0, 1] [0, 1, 5, 36] (True ∧ (True ∧ (True ∧ True))) ⟨[(0, .one (.e (.p 0 0))), (1, I i4), (5, I (w64 ((w64 (i3 + 1)) - 1))), (36, B (decide ((w64 ((w64 (i3 + 1)) - 1)) < ((k2 : Nat) : Int))))], [.cells [.sl 1 0 k2, cI (w64 (i3 + 1))], .row .u8 x1 false]⟩ (by kernel_rfl) ⟨trivial, trivial, trivial, trivial⟩ ?_
      refine WO_nil rfl ?_
      refine thenS_n ?_
      refine iteO_e h (fun hb31 h => W_true rfl hb31 ?_) (fun hb31 h => W_false rfl hb31 ?_)
      · refine W_seq ?_
        refine W_region ?_
        refine guardO_e h (fun hg32 h => ?_)
        refine guardO_e h (fun hg33 h => ?_)
        refine WO_step 11 [0, 1] [4] (True ∧ ((0 ≤ (w64 ((w64 (i3 + 1)) - 1)) ∧ (w64 ((w64 (i3 + 1)) - 1)) < ((k2 : Nat) : Int)) ∧ (True ∧ (True ∧ (((i4 : Int) ≠ 0) ∧ True))))) ⟨[(4, I ((w64 (x1.getD ((w64 ((w64 (i3 + 1)) - 1)).toNat) 0)).tmod i4))], [.cells [.sl 1 0 k2, cI (w64 (i3 + 1))], .row .u8 x1 false]⟩ (by kernel_rfl) ⟨trivial, hg32, trivial, trivial, hg33, trivial⟩ ?_
        refine WO_nil rfl ?_
        refine thenS_n ?_
        refine W_ret ?_
        refine thenS_r ?_
        cases h
        exact ⟨[0, 1], True, by kernel_rfl, trivial⟩
      · refine W_sub [0, 1] [0, 1, 5] (st' := ⟨[(0, .one (.e (.p 0 0))), (1, I i4), (5, I (w64 ((w64 (i3 + 1)) - 1)))], [.cells [.sl 1 0 k2, cI (w64 (i3 + 1))], .row .u8 x1 false]⟩) (by kernel_rfl) ?_
        refine W_skip ?_
        refine thenS_n ?_
        refine W_seq ?_
        refine guardO_e h (fun hg34 h => ?_)
        refine guardO_e h (fun hg35 h => ?_)
        refine guardO_e h (fun hg36 h => ?_)
        refine guardO_e h (fun hg37 h => ?_)
        refine guardO_e h (fun hg38 h => ?_)
        refine W_cut (Q' := fun (e : Exit) (s : St) => e = .normal ∧ s = ⟨[(1, I i4), (6, I (w64 ((w64 ((w64 ((w64 ((w64 (x1.getD (((w64 ((w64 (i3 + 1)) - 1)).tmod ((k2 : Nat) : Int)).toNat) 0)) * 131)) + (w64 ((w64 (x1.getD (((w64 ((w64 ((w64 ((w64 (i3 + 1)) - 1)) * 7)) + 3)).tmod ((k2 : Nat) : Int)).toNat) 0)) * 1117)))) + (w64 ((w64 ((w64 (i3 + 1)) - 1)) * 29)))) + (w64 ((w64 ((w64 ((w64 (i3 + 1)) - 1)).tdiv ((k2 : Nat) : Int))) * 53)))))], [.cells [.sl 1 0 k2, cI (w64 (i3 + 1))], .row .u8 x1 false]⟩) ?_ ?_
        · refine W_draw [] true (by kernel_rfl) (by kernel_rfl) ?_
          refine WD_takeK [0, 1, 2, 3, 4, 5, 6, 7, 8, 9, 10, 11, 12, 13, 14, 15, 16, 17, 18, 19, 20, 21, 22, 23, 24, 25, 26, 27, 28, 29, 30, 31, 32, 33, 34, 35, 36, 37, 38, 39, 40, 41, 42, 43, 44, 45] [1, 6] [1, 6] (φ := (True ∧ True ∧ (True ∧ True ∧ (True ∧ True ∧ (((((k2 : Nat) : Int) : Int) ≠ 0) ∧ ((((k2 : Nat) : Int) : Int) ≠ 0) ∧ ((0 ≤ ((w64 ((w64 (i3 + 1)) - 1)).tmod ((k2 : Nat) : Int)) ∧ ((w64 ((w64 (i3 + 1)) - 1)).tmod ((k2 : Nat) : Int)) < ((k2 : Nat) : Int)) ∧ (0 ≤ ((w64 ((w64 (i3 + 1)) - 1)).tmod ((k2 : Nat) : Int)) ∧ ((w64 ((w64 (i3 + 1)) - 1)).tmod ((k2 : Nat) : Int)) < ((k2 : Nat) : Int)) ∧ (True ∧ True ∧ (True ∧ True ∧ (True ∧ True ∧ (True ∧ True ∧ (True ∧ True ∧ (True ∧ True ∧ (True ∧ True ∧ (True ∧ True ∧ (((((k2 : Nat) : Int) : Int) ≠ 0) ∧ ((((k2 : Nat) : Int) : Int) ≠ 0) ∧ ((0 ≤ ((w64 ((w64 ((w64 ((w64 (i3 + 1)) - 1)) * 7)) + 3)).tmod ((k2 : Nat) : Int)) ∧ ((w64 ((w64 ((w64 ((w64 (i3 + 1)) - 1)) * 7)) + 3)).tmod ((k2 : Nat) : Int)) < ((k2 : Nat) : Int)) ∧ (0 ≤ ((w64 ((w64 ((w64 ((w64 (i3 + 1)) - 1)) * 7)) + 3)).tmod ((k2 : Nat) : Int)) ∧ ((w64 ((w64 ((w64 ((w64 (i3 + 1)) - 1)) * 7)) + 3)).tmod ((k2 : Nat) : Int)) < ((k2 : Nat) : Int)) ∧ (True ∧ True ∧ (True ∧ True ∧ (True ∧ True ∧ (True ∧ True ∧ (True ∧ True ∧ (True ∧ True ∧ (True ∧ True ∧ (True ∧ True ∧ (((((k2 : Nat) : Int) : Int) ≠ 0) ∧ ((((k2 : Nat) : Int) : Int) ≠ 0) ∧ (True ∧ True ∧ (True ∧ True ∧ True))))))))))))))))))))))))))) (ls' := #[true, true, true, true, true, true, true, true, true, true, true, true, true, true, true, true, true, true, true, true, true, true, true, true, true, true, true, true, true, true, true, true, true, true, true, true, true, true, true, true, true, true, true, true, true, true]) (Ts' := [(1, I i4), (6, I (w64 ((w64 ((w64 ((w64 ((w64 (x1.getD (((w64 ((w64 (i3 + 1)) - 1)).tmod ((k2 : Nat) : Int)).toNat) 0)) * 131)) + (w64 ((w64 (x1.getD (((w64 ((w64 ((w64 ((w64 (i3 + 1)) - 1)) * 7)) + 3)).tmod ((k2 : Nat) : Int)).toNat) 0)) * 1117)))) + (w64 ((w64 ((w64 (i3 + 1)) - 1)) * 29)))) + (w64 ((w64 ((w64 ((w64 (i3 + 1)) - 1)).tdiv ((k2 : Nat) : Int))) * 53)))))]) (st' := ⟨[(1, I i4), (6, I (w64 ((w64 ((w64 ((w64 ((w64 (x1.getD (((w64 ((w64 (i3 + 1)) - 1)).tmod ((k2 : Nat) : Int)).toNat) 0)) * 131)) + (w64 ((w64 (x1.getD (((w64 ((w64 ((w64 ((w64 (i3 + 1)) - 1)) * 7)) + 3)).tmod ((k2 : Nat) : Int)).toNat) 0)) * 1117)))) + (w64 ((w64 ((w64 (i3 + 1)) - 1)) * 29)))) + (w64 ((w64 ((w64 ((w64 (i3 + 1)) - 1)).tdiv ((k2 : Nat) : Int))) * 53)))))], [.cells [.sl 1 0 k2, cI (w64 (i3 + 1))], .row .u8 x1 false]⟩) (n2 := 0) (by kernel_rfl) ⟨trivial, trivial, trivial, trivial, trivial, trivial, hg34, hg34, hg35, hg35, trivial, trivial, trivial, trivial, trivial, trivial, trivial, trivial, trivial, trivial, trivial, trivial, trivial, trivial, trivial, trivial, hg36, hg36, hg37, hg37, trivial, trivial, trivial, trivial, trivial, trivial, trivial, trivial, trivial, trivial, trivial, trivial, trivial, trivial, trivial, trivial, hg38, hg38, trivial, trivial, trivial, trivial, trivial⟩ rfl ?_
          exact WD_done [0, 1] [1, 6] (st' := ⟨[(1, I i4), (6, I (w64 ((w64 ((w64 ((w64 ((w64 (x1.getD (((w64 ((w64 (i3 + 1)) - 1)).tmod ((k2 : Nat) : Int)).toNat) 0)) * 131)) + (w64 ((w64 (x1.getD (((w64 ((w64 ((w64 ((w64 (i3 + 1)) - 1)) * 7)) + 3)).tmod ((k2 : Nat) : Int)).toNat) 0)) * 1117)))) + (w64 ((w64 ((w64 (i3 + 1)) - 1)) * 29)))) + (w64 ((w64 ((w64 ((w64 (i3 + 1)) - 1)).tdiv ((k2 : Nat) : Int))) * 53)))))], [.cells [.sl 1 0 k2, cI (w64 (i3 + 1))], .row .u8 x1 false]⟩) (by kernel_rfl) (by kernel_rfl) (And.intro rfl rfl)
        · rintro _ _ ⟨rfl, rfl⟩
          refine thenS_n ?_
          refine W_seq ?_
          refine W_region ?_
          refine WO_step 5 [0, 1] [1, 6] (((64 : Int) ≠ 0) ∧ (True ∧ True)) ⟨[(1, I i4), (6, I (w64 (BitVec.ofInt 64 (w64 ((w64 ((w64 ((w64 ((w64 (x1.getD (((w64 ((w64 (i3 + 1)) - 1)).tmod ((k2 : Nat) : Int)).toNat) 0)) * 131)) + (w64 ((w64 (x1.getD (((w64 ((w64 ((w64 ((w64 (i3 + 1)) - 1)) * 7)) + 3)).tmod ((k2 : Nat) : Int)).toNat) 0)) * 1117)))) + (w64 ((w64 ((w64 (i3 + 1)) - 1)) * 29)))) + (w64 ((w64 ((w64 ((w64 (i3 + 1)) - 1)).tdiv ((k2 : Nat) : Int))) * 53)))) ^^^ BitVec.ofInt 64 (w64 ((w64 ((w64 ((w64 ((w64 ((w64 (x1.getD (((w64 ((w64 (i3 + 1)) - 1)).tmod ((k2 : Nat) : Int)).toNat) 0)) * 131)) + (w64 ((w64 (x1.getD (((w64 ((w64 ((w64 ((w64 (i3 + 1)) - 1)) * 7)) + 3)).tmod ((k2 : Nat) : Int)).toNat) 0)) * 1117)))) + (w64 ((w64 ((w64 (i3 + 1)) - 1)) * 29)))) + (w64 ((w64 ((w64 ((w64 (i3 + 1)) - 1)).tdiv ((k2 : Nat) : Int))) * 53)))).tdiv 64))).toNat))], [.cells [.sl 1 0 k2, cI (w64 (i3 + 1))], .row .u8 x1 false]⟩ (by kernel_rfl) ⟨(by decide), trivial, trivial⟩ ?_
          refine WO_nil rfl ?_
          refine thenS_n ?_
          refine W_seq ?_
          refine W_region ?_
          refine guardO_e h (fun hg39 h => ?_)
          refine WO_step 4 [0, 1] [4] (((i4 : Int) ≠ 0) ∧ True) ⟨[(4, I ((w64 (BitVec.ofInt 64 (w64 ((w64 ((w64 ((w64 ((w64 (x1.getD (((w64 ((w64 (i3 + 1)) - 1)).tmod ((k2 : Nat) : Int)).toNat) 0)) * 131)) + (w64 ((w64 (x1.getD (((w64 ((w64 ((w64 ((w64 (i3 + 1)) - 1)) * 7)) + 3)).tmod ((k2 : Nat) : Int)).toNat) 0)) * 1117)))) + (w64 ((w64 ((w64 (i3 + 1)) - 1)) * 29)))) + (w64 ((w64 ((w64 ((w64 (i3 + 1)) - 1)).tdiv ((k2 : Nat) : Int))) * 53)))) ^^^ BitVec.ofInt 64 (w64 ((w64 ((w64 ((w64 ((w64 ((w64 (x1.getD (((w64 ((w64 (i3 + 1)) - 1)).tmod ((k2 : Nat) : Int)).toNat) 0)) * 131)) + (w64 ((w64 (x1.getD (((w64 ((w64 ((w64 ((w64 (i3 + 1)) - 1)) * 7)) + 3)).tmod ((k2 : Nat) : Int)).toNat) 0)) * 1117)))) + (w64 ((w64 ((w64 (i3 + 1)) - 1)) * 29)))) + (w64 ((w64 ((w64 ((w64 (i3 + 1)) - 1)).tdiv ((k2 : Nat) : Int))) * 53)))).tdiv 64))).toNat).tmod i4))], [.cells [.sl 1 0 k2, cI (w64 (i3 + 1))], .row .u8 x1 false]⟩ (by kernel_rfl) ⟨hg39, trivial⟩ ?_
          refine WO_nil rfl ?_
          refine thenS_n ?_
          refine W_ret ?_
          cases h
          exact ⟨[0, 1], True, by kernel_rfl, trivial⟩

/- spec.reader).one -/
def spec_reader_one (x1 : List Int) (k2 : Nat) (i3 : Int) (x4 : List Int) : Option (Int × Int) :=
 bindO (spec_reader_pick x1 k2 i3 ((x4.length : Nat) : Int)) fun i10 =>
 guardO (0 ≤ i10 ∧ i10 < ((x4.length : Nat) : Int)) <|
 some ((w64 (i3 + 1)), (x4.getD i10.toNat 0))

theorem spec_reader_one_ok (x1 : List Int) (k2 : Nat) (i3 : Int) (x4 : List Int) (i8 : Int) (i9 : Int) (h : spec_reader_one x1 k2 i3 x4 = some (i8, i9)) : FOk EE 43 [.one (.e (.p 0 0)), .one (.e (.sl 2 0 x4.length))] [.cells [.sl 1 0 k2, cI i3], .row .u8 x1 false, .row .int x4 false] (I i9) [.cells [.sl 1 0 k2, cI i8], .row .u8 x1 false, .row .int x4 false] := by
  unfold spec_reader_one at h
  refine FOk_of_W 12 3 Try.func43 rfl rfl (Nat.le_of_ble_eq_true rfl) rfl (fun w X θ => ?_)
  refine W_seq ?_
  refine W_region ?_
  refine WO_step 1 [0, 1, 2] [0, 1] True ⟨[(0, .one (.e (.p 0 0))), (1, .one (.e (.sl 2 0 x4.length)))], [.cells [.sl 1 0 k2, cI i3], .row .u8 x1 false, .row .int x4 false]⟩ (by kernel_rfl) trivial ?_
  refine WO_nil rfl ?_
  refine thenS_n ?_
  refine W_seq ?_
  refine W_region ?_
  refine WO_step 4 [0, 1, 2] [5, 6, 8] (True ∧ True) ⟨[(5, .one (.e (.sl 2 0 x4.length))), (6, .one (.e (.p 0 0))), (8, I ((x4.length : Nat) : Int))], [.cells [.sl 1 0 k2, cI i3], .row .u8 x1 false, .row .int x4 false]⟩ (by kernel_rfl) ⟨trivial, trivial⟩ ?_
  refine bindO_e h (fun i10 hc11 h => ?_)
  refine WO_call [.own 0, .ro 1] Try.f42 rfl rfl rfl (by kernel_rfl) rfl rfl (by kernel_rfl) (spec_reader_pick_ok x1 k2 i3 ((x4.length : Nat) : Int) i10 hc11) (And.intro (trivial) (And.intro (And.intro rfl rfl) (trivial))) rfl ?_
  refine guardO_e h (fun hg12 h => ?_)
  refine WO_step 3 [0, 1, 2] [4] ((0 ≤ i10 ∧ i10 < ((x4.length : Nat) : Int)) ∧ (True ∧ True)) ⟨[(4, I (x4.getD i10.toNat 0))], [.cells [.sl 1 0 k2, cI (w64 (i3 + 1))], .row .u8 x1 false, .row .int x4 false]⟩ (by kernel_rfl) ⟨hg12, trivial, trivial⟩ ?_
  refine WO_nil rfl ?_
  refine thenS_n ?_
  refine W_ret ?_
  cases h
  exact ⟨[0, 1, 2], True, by kernel_rfl, trivial⟩

/- spec.someValue -/
def spec_someValue (x1 : List Int) (k2 : Nat) (i3 : Int) : Option (Int × Int) :=
 bindO (spec_reader_pick x1 k2 i3 40) fun i14 =>
 bindO (spec_reader_pick x1 k2 (w64 (i3 + 1)) 250) fun i16 =>
 bindO (spec_reader_one x1 k2 (w64 ((w64 (i3 + 1)) + 1)) [0, 1, (-1), 5, 10, 100, 1000, (-1000), i14, (w64 ((w64 (4 * i16)) - 500))]) fun (i18, i19) =>
 some (i18, i19)

theorem spec_someValue_ok (x1 : List Int) (k2 : Nat) (i3 : Int) (i12 : Int) (i13 : Int) (h : spec_someValue x1 k2 i3 = some (i12, i13)) : FOk EE 44 [.one (.e (.p 0 0))] [.cells [.sl 1 0 k2, cI i3], .row .u8 x1 false] (I i13) [.cells [.sl 1 0 k2, cI i12], .row .u8 x1 false] := by
  unfold spec_someValue at h
  refine FOk_of_W 12 2 Try.func44 rfl rfl (Nat.le_of_ble_eq_true rfl) rfl (fun w X θ => ?_)
  refine W_seq ?_
  refine W_region ?_
  refine WO_step 1 [0, 1] [0] True ⟨[(0, .one (.e (.p 0 0)))], [.cells [.sl 1 0 k2, cI i3], .row .u8 x1 false]⟩ (by kernel_rfl) trivial ?_
  refine WO_nil rfl ?_
  refine thenS_n ?_
  refine W_seq ?_
  refine W_region ?_
  refine WO_step 2 [0, 1] [0, 3, 4] True ⟨[(0, .one (.e (.p 0 0))), (3, .one (.e (.p 0 0))), (4, .one (.e (.p 0 0)))], [.cells [.sl 1 0 k2, cI i3], .row .u8 x1 false]⟩ (by kernel_rfl) trivial ?_
  refine bindO_e h (fun i14 hc15 h => ?_)
  refine WO_call [.own 0, .ro 1] Try.f42 rfl rfl rfl (by kernel_rfl) rfl rfl (by kernel_rfl) (spec_reader_pick_ok x1 k2 i3 40 i14 hc15) (And.intro (trivial) (And.intro (And.intro rfl rfl) (trivial))) rfl ?_
  refine WO_step 1 [0, 1] [3, 5, 6] True ⟨[(3, .one (.e (.p 0 0))), (5, I i14), (6, .one (.e (.p 0 0)))], [.cells [.sl 1 0 k2, cI (w64 (i3 + 1))], .row .u8 x1 false]⟩ (by kernel_rfl) trivial ?_
  refine bindO_e h (fun i16 hc17 h => ?_)
  refine WO_call [.own 0, .ro 1] Try.f42 rfl rfl rfl (by kernel_rfl) rfl rfl (by kernel_rfl) (spec_reader_pick_ok x1 k2 (w64 (i3 + 1)) 250 i16 hc17) (And.intro (trivial) (And.intro (And.intro rfl rfl) (trivial))) rfl ?_
  refine WO_step 3 [0, 1, 2] [3, 10] (True ∧ (True ∧ True)) ⟨[(3, .one (.e (.p 0 0))), (10, .one (.e (.sl 2 0 ([0, 1, (-1), 5, 10, 100, 1000, (-1000), i14, (w64 ((w64 (4 * i16)) - 500))].length))))], [.cells [.sl 1 0 k2, cI (w64 ((w64 (i3 + 1)) + 1))], .row .u8 x1 false, .row .int [0, 1, (-1), 5, 10, 100, 1000, (-1000), i14, (w64 ((w64 (4 * i16)) - 500))] true]⟩ (by kernel_rfl) ⟨trivial, trivial, trivial⟩ ?_
  refine bindO_e h (fun v21 hc20 h => ?_)
  obtain ⟨i18, i19⟩ := v21
  refine WO_call [.own 0, .ro 1, .ro 2] Try.f43 rfl rfl rfl (by kernel_rfl) rfl rfl (by kernel_rfl) (spec_reader_one_ok x1 k2 (w64 ((w64 (i3 + 1)) + 1)) [0, 1, (-1), 5, 10, 100, 1000, (-1000), i14, (w64 ((w64 (4 * i16)) - 500))] i18 i19 hc20) (And.intro (trivial) (And.intro (And.intro rfl rfl) (And.intro (And.intro rfl rfl) (trivial)))) rfl ?_
  refine WO_step 1 [0, 1] [2] True ⟨[(2, I i19)], [.cells [.sl 1 0 k2, cI i18], .row .u8 x1 false]⟩ (by kernel_rfl) trivial ?_
  refine WO_nil rfl ?_
  refine thenS_n ?_
  refine W_ret ?_
  cases h
  exact ⟨[0, 1], True, by kernel_rfl, trivial⟩

/- spec.AddVersion -/
def spec_AddVersion (n : Nat) (x1 : List Ver) (x2 : Ver) : Option ((List Ver) × Bool) :=
 guardO (0 = 0 ∧ ([] : List Ver).length = ([] : List Ver).length ∧ ([] : List Ver).length + ((x1.drop 0).take x1.length).length ≤ 1099511627776) <|
 guardO (0 = 0 ∧ (([] : List Ver) ++ ((x1.drop 0).take x1.length)).length = (([] : List Ver) ++ ((x1.drop 0).take x1.length)).length ∧ (([] : List Ver) ++ ((x1.drop 0).take x1.length)).length + (([(⟨x2.node, x2.value, x2.tm⟩ : Ver)].drop 0).take ([(⟨x2.node, x2.value, x2.tm⟩ : Ver)].length)).length ≤ 1099511627776) <|
 bindO (spec_validVersions n x1) fun b21 =>
 bindO (iteO (!b21)
 (some true)
 (bindO (spec_validVersions n ((([] : List Ver) ++ ((x1.drop 0).take x1.length)) ++ (([(⟨x2.node, x2.value, x2.tm⟩ : Ver)].drop 0).take ([(⟨x2.node, x2.value, x2.tm⟩ : Ver)].length)))) fun b29 =>
 some (!b29))) fun b26 =>
 iteO b26
 (some (([] : List Ver), false))
 (some (((([] : List Ver) ++ ((x1.drop 0).take x1.length)) ++ (([(⟨x2.node, x2.value, x2.tm⟩ : Ver)].drop 0).take ([(⟨x2.node, x2.value, x2.tm⟩ : Ver)].length))), true))

theorem spec_AddVersion_ok (n : Nat) (x1 : List Ver) (x2 : Ver) (x17 : List Ver) (b18 : Bool) (h : spec_AddVersion n x1 x2 = some (x17, b18)) : FOk EE 28 [.one (.e (.sl 0 0 x1.length)), AGG [cI x2.node, cI x2.value, cI x2.tm]] [.row .ver x1 false] (.tup [.e (.sl 1 0 x17.length), .e (cB b18)]) [.row .ver x1 false, .row .ver x17 true] := by
  unfold spec_AddVersion at h
  refine FOk_of_W 22 1 Try.func28 rfl rfl (Nat.le_of_ble_eq_true rfl) rfl (fun w X θ => ?_)
  refine W_seq ?_
  refine W_region ?_
  refine WO_step 3 [0, 1] [0, 3] (True ∧ True) ⟨[(0, .one (.e (.sl 0 0 x1.length))), (3, .one (.e (.p 1 0)))], [.row .ver x1 false, .cells [cI x2.node, cI x2.value, cI x2.tm]]⟩ (by kernel_rfl) ⟨trivial, trivial⟩ ?_
  refine WO_nil rfl ?_
  refine thenS_n ?_
  refine W_seq ?_
  refine guardO_e h (fun hg19 h => ?_)
  refine guardO_e h (fun hg20 h => ?_)
  refine W_cut (Q' := fun (e : Exit) (s : St) => e = .normal ∧ s = ⟨[(0, .one (.e (.sl 0 0 x1.length))), (6, .one (.e (.sl 1 0 (((([] : List Ver) ++ ((x1.drop 0).take x1.length)) ++ (([(⟨x2.node, x2.value, x2.tm⟩ : Ver)].drop 0).take ([(⟨x2.node, x2.value, x2.tm⟩ : Ver)].length))).length))))], [.row .ver x1 false, .row .ver ((([] : List Ver) ++ ((x1.drop 0).take x1.length)) ++ (([(⟨x2.node, x2.value, x2.tm⟩ : Ver)].drop 0).take ([(⟨x2.node, x2.value, x2.tm⟩ : Ver)].length))) true]⟩) ?_ ?_
  · refine W_draw [] false (by kernel_rfl) (by kernel_rfl) ?_
    refine WD_takeK [1, 3] [0, 8, 10] [0, 8, 10] (φ := (True ∧ True ∧ True)) (ls' := #[false, true, false, true, false, false, false]) (Ts' := [(0, .one (.e (.sl 0 0 x1.length))), (8, .one (.e (.sl 0 0 x1.length))), (10, AGG [cI x2.node, cI x2.value, cI x2.tm])]) (st' := ⟨[(0, .one (.e (.sl 0 0 x1.length))), (8, .one (.e (.sl 0 0 x1.length))), (10, AGG [cI x2.node, cI x2.value, cI x2.tm])], [.row .ver x1 false, .cells [cI x2.node, cI x2.value, cI x2.tm]]⟩) (n2 := 5) (by kernel_rfl) ⟨trivial, trivial, trivial⟩ rfl ?_
    refine WD_all [0, 4] (n := 4) (by kernel_rfl) rfl (And.intro ?_ (?_))
    · refine WM_op (φ := True) (v := .one (.e (.sl 2 0 (([] : List Ver).length)))) (H' := [.row .ver x1 false, .cells [cI x2.node, cI x2.value, cI x2.tm], .row .ver ([] : List Ver) true]) rfl rfl (by kernel_rfl) trivial rfl (And.intro rfl (And.intro (And.intro rfl rfl) (trivial))) ?_
      refine WD_all [2, 4] (n := 3) (by kernel_rfl) rfl (And.intro ?_ (?_))
      · refine WM_op (φ := 0 = 0 ∧ ([] : List Ver).length = ([] : List Ver).length ∧ ([] : List Ver).length + ((x1.drop 0).take x1.length).length ≤ 1099511627776) (v := .one (.e (.sl 3 0 ((([] : List Ver) ++ ((x1.drop 0).take x1.length)).length)))) (H' := [.row .ver x1 false, .cells [cI x2.node, cI x2.value, cI x2.tm], .dead, .row .ver (([] : List Ver) ++ ((x1.drop 0).take x1.length)) true]) rfl rfl (by kernel_rfl) hg19 rfl (And.intro rfl (And.intro (And.intro rfl rfl) (trivial))) ?_
        refine WD_all [4] (n := 2) (by kernel_rfl) rfl ?_
        refine WM_op (φ := True) (v := .one (.e (.sl 4 0 ([(⟨x2.node, x2.value, x2.tm⟩ : Ver)].length)))) (H' := [.row .ver x1 false, .cells [cI x2.node, cI x2.value, cI x2.tm], .dead, .row .ver (([] : List Ver) ++ ((x1.drop 0).take x1.length)) true, .row .ver [(⟨x2.node, x2.value, x2.tm⟩ : Ver)] true]) rfl rfl (by kernel_rfl) trivial rfl (And.intro rfl (And.intro (And.intro rfl rfl) (trivial))) ?_
        refine WD_all [5] (n := 1) (by kernel_rfl) rfl ?_
        refine WM_op (φ := 0 = 0 ∧ (([] : List Ver) ++ ((x1.drop 0).take x1.length)).length = (([] : List Ver) ++ ((x1.drop 0).take x1.length)).length ∧ (([] : List Ver) ++ ((x1.drop 0).take x1.length)).length + (([(⟨x2.node, x2.value, x2.tm⟩ : Ver)].drop 0).take ([(⟨x2.node, x2.value, x2.tm⟩ : Ver)].length)).length ≤ 1099511627776) (v := .one (.e (.sl 5 0 (((([] : List Ver) ++ ((x1.drop 0).take x1.length)) ++ (([(⟨x2.node, x2.value, x2.tm⟩ : Ver)].drop 0).take ([(⟨x2.node, x2.value, x2.tm⟩ : Ver)].length))).length)))) (H' := [.row .ver x1 false, .cells [cI x2.node, cI x2.value, cI x2.tm], .dead, .dead, .row .ver [(⟨x2.node, x2.value, x2.tm⟩ : Ver)] true, .row .ver ((([] : List Ver) ++ ((x1.drop 0).take x1.length)) ++ (([(⟨x2.node, x2.value, x2.tm⟩ : Ver)].drop 0).take ([(⟨x2.node, x2.value, x2.tm⟩ : Ver)].length))) true]) rfl rfl (by kernel_rfl) hg20 rfl (And.intro rfl (And.intro (And.intro rfl rfl) (trivial))) ?_
        refine WD_all [6] (n := 0) (by kernel_rfl) rfl ?_
        refine WM_op (φ := True) (v := .one (.e (.sl 5 0 (((([] : List Ver) ++ ((x1.drop 0).take x1.length)) ++ (([(⟨x2.node, x2.value, x2.tm⟩ : Ver)].drop 0).take ([(⟨x2.node, x2.value, x2.tm⟩ : Ver)].length))).length)))) (H' := [.row .ver x1 false, .cells [cI x2.node, cI x2.value, cI x2.tm], .dead, .dead, .row .ver [(⟨x2.node, x2.value, x2.tm⟩ : Ver)] true, .row .ver ((([] : List Ver) ++ ((x1.drop 0).take x1.length)) ++ (([(⟨x2.node, x2.value, x2.tm⟩ : Ver)].drop 0).take ([(⟨x2.node, x2.value, x2.tm⟩ : Ver)].length))) true]) rfl rfl (by kernel_rfl) trivial rfl (And.intro rfl (And.intro (And.intro rfl rfl) (trivial))) ?_
        exact WD_done [0, 5] [0, 6] (st' := ⟨[(0, .one (.e (.sl 0 0 x1.length))), (6, .one (.e (.sl 1 0 (((([] : List Ver) ++ ((x1.drop 0).take x1.length)) ++ (([(⟨x2.node, x2.value, x2.tm⟩ : Ver)].drop 0).take ([(⟨x2.node, x2.value, x2.tm⟩ : Ver)].length))).length))))], [.row .ver x1 false, .row .ver ((([] : List Ver) ++ ((x1.drop 0).take x1.length)) ++ (([(⟨x2.node, x2.value, x2.tm⟩ : Ver)].drop 0).take ([(⟨x2.node, x2.value, x2.tm⟩ : Ver)].length))) true]⟩) (by kernel_rfl) (by kernel_rfl) (And.intro rfl rfl)
      · refine WM_op (φ := True) (v := .one (.e (.sl 3 0 ([(⟨x2.node, x2.value, x2.tm⟩ : Ver)].length)))) (H' := [.row .ver x1 false, .cells [cI x2.node, cI x2.value, cI x2.tm], .row .ver ([] : List Ver) true, .row .ver [(⟨x2.node, x2.value, x2.tm⟩ : Ver)] true]) rfl rfl (by kernel_rfl) trivial rfl (And.intro rfl (And.intro (And.intro rfl rfl) (trivial))) ?_
        refine WD_all [2] (n := 2) (by kernel_rfl) rfl ?_
        refine WM_op (φ := 0 = 0 ∧ ([] : List Ver).length = ([] : List Ver).length ∧ ([] : List Ver).length + ((x1.drop 0).take x1.length).length ≤ 1099511627776) (v := .one (.e (.sl 4 0 ((([] : List Ver) ++ ((x1.drop 0).take x1.length)).length)))) (H' := [.row .ver x1 false, .cells [cI x2.node, cI x2.value, cI x2.tm], .dead, .row .ver [(⟨x2.node, x2.value, x2.tm⟩ : Ver)] true, .row .ver (([] : List Ver) ++ ((x1.drop 0).take x1.length)) true]) rfl rfl (by kernel_rfl) hg19 rfl (And.intro rfl (And.intro (And.intro rfl rfl) (trivial))) ?_
        refine WD_all [5] (n := 1) (by kernel_rfl) rfl ?_
        refine WM_op (φ := 0 = 0 ∧ (([] : List Ver) ++ ((x1.drop 0).take x1.length)).length = (([] : List Ver) ++ ((x1.drop 0).take x1.length)).length ∧ (([] : List Ver) ++ ((x1.drop 0).take x1.length)).length + (([(⟨x2.node, x2.value, x2.tm⟩ : Ver)].drop 0).take ([(⟨x2.node, x2.value, x2.tm⟩ : Ver)].length)).length ≤ 1099511627776) (v := .one (.e (.sl 5 0 (((([] : List Ver) ++ ((x1.drop 0).take x1.length)) ++ (([(⟨x2.node, x2.value, x2.tm⟩ : Ver)].drop 0).take ([(⟨x2.node, x2.value, x2.tm⟩ : Ver)].length))).length)))) (H' := [.row .ver x1 false, .cells [cI x2.node, cI x2.value, cI x2.tm], .dead, .row .ver [(⟨x2.node, x2.value, x2.tm⟩ : Ver)] true, .dead, .row .ver ((([] : List Ver) ++ ((x1.drop 0).take x1.length)) ++ (([(⟨x2.node, x2.value, x2.tm⟩ : Ver)].drop 0).take ([(⟨x2.node, x2.value, x2.tm⟩ : Ver)].length))) true]) rfl rfl (by kernel_rfl) hg20 rfl (And.intro rfl (And.intro (And.intro rfl rfl) (trivial))) ?_
        refine WD_all [6] (n := 0) (by kernel_rfl) rfl ?_
        refine WM_op (φ := True) (v := .one (.e (.sl 5 0 (((([] : List Ver) ++ ((x1.drop 0).take x1.length)) ++ (([(⟨x2.node, x2.value, x2.tm⟩ : Ver)].drop 0).take ([(⟨x2.node, x2.value, x2.tm⟩ : Ver)].length))).length)))) (H' := [.row .ver x1 false, .cells [cI x2.node, cI x2.value, cI x2.tm], .dead, .row .ver [(⟨x2.node, x2.value, x2.tm⟩ : Ver)] true, .dead, .row .ver ((([] : List Ver) ++ ((x1.drop 0).take x1.length)) ++ (([(⟨x2.node, x2.value, x2.tm⟩ : Ver)].drop 0).take ([(⟨x2.node, x2.value, x2.tm⟩ : Ver)].length))) true]) rfl rfl (by kernel_rfl) trivial rfl (And.intro rfl (And.intro (And.intro rfl rfl) (trivial))) ?_
        exact WD_done [0, 5] [0, 6] (st' := ⟨[(0, .one (.e (.sl 0 0 x1.length))), (6, .one (.e (.sl 1 0 (((([] : List Ver) ++ ((x1.drop 0).take x1.length)) ++ (([(⟨x2.node, x2.value, x2.tm⟩ : Ver)].drop 0).take ([(⟨x2.node, x2.value, x2.tm⟩ : Ver)].length))).length))))], [.row .ver x1 false, .row .ver ((([] : List Ver) ++ ((x1.drop 0).take x1.length)) ++ (([(⟨x2.node, x2.value, x2.tm⟩ : Ver)].drop 0).take ([(⟨x2.node, x2.value, x2.tm⟩ : Ver)].length))) true]⟩) (by kernel_rfl) (by kernel_rfl) (And.intro rfl rfl)
    · refine WM_op (φ := True) (v := .one (.e (.sl 2 0 ([(⟨x2.node, x2.value, x2.tm⟩ : Ver)].length)))) (H' := [.row .ver x1 false, .cells [cI x2.node, cI x2.value, cI x2.tm], .row .ver [(⟨x2.node, x2.value, x2.tm⟩ : Ver)] true]) rfl rfl (by kernel_rfl) trivial rfl (And.intro rfl (And.intro (And.intro rfl rfl) (trivial))) ?_
      refine WD_all [0] (n := 3) (by kernel_rfl) rfl ?_
      refine WM_op (φ := True) (v := .one (.e (.sl 3 0 (([] : List Ver).length)))) (H' := [.row .ver x1 false, .cells [cI x2.node, cI x2.value, cI x2.tm], .row .ver [(⟨x2.node, x2.value, x2.tm⟩ : Ver)] true, .row .ver ([] : List Ver) true]) rfl rfl (by kernel_rfl) trivial rfl (And.intro rfl (And.intro (And.intro rfl rfl) (trivial))) ?_
      refine WD_all [2] (n := 2) (by kernel_rfl) rfl ?_
      refine WM_op (φ := 0 = 0 ∧ ([] : List Ver).length = ([] : List Ver).length ∧ ([] : List Ver).length + ((x1.drop 0).take x1.length).length ≤ 1099511627776) (v := .one (.e (.sl 4 0 ((([] : List Ver) ++ ((x1.drop 0).take x1.length)).length)))) (H' := [.row .ver x1 false, .cells [cI x2.node, cI x2.value, cI x2.tm], .row .ver [(⟨x2.node, x2.value, x2.tm⟩ : Ver)] true, .dead, .row .ver (([] : List Ver) ++ ((x1.drop 0).take x1.length)) true]) rfl rfl (by kernel_rfl) hg19 rfl (And.intro rfl (And.intro (And.intro rfl rfl) (trivial))) ?_
      refine WD_all [5] (n := 1) (by kernel_rfl) rfl ?_
      refine WM_op (φ := 0 = 0 ∧ (([] : List Ver) ++ ((x1.drop 0).take x1.length)).length = (([] : List Ver) ++ ((x1.drop 0).take x1.length)).length ∧ (([] : List Ver) ++ ((x1.drop 0).take x1.length)).length + (([(⟨x2.node, x2.value, x2.tm⟩ : Ver)].drop 0).take ([(⟨x2.node, x2.value, x2.tm⟩ : Ver)].length)).length ≤ 1099511627776) (v := .one (.e (.sl 5 0 (((([] : List Ver) ++ ((x1.drop 0).take x1.length)) ++ (([(⟨x2.node, x2.value, x2.tm⟩ : Ver)].drop 0).take ([(⟨x2.node, x2.value, x2.tm⟩ : Ver)].length))).length)))) (H' := [.row .ver x1 false, .cells [cI x2.node, cI x2.value, cI x2.tm], .row .ver [(⟨x2.node, x2.value, x2.tm⟩ : Ver)] true, .dead, .dead, .row .ver ((([] : List Ver) ++ ((x1.drop 0).take x1.length)) ++ (([(⟨x2.node, x2.value, x2.tm⟩ : Ver)].drop 0).take ([(⟨x2.node, x2.value, x2.tm⟩ : Ver)].length))) true]) rfl rfl (by kernel_rfl) hg20 rfl (And.intro rfl (And.intro (And.intro rfl rfl) (trivial))) ?_
      refine WD_all [6] (n := 0) (by kernel_rfl) rfl ?_
      refine WM_op (φ := True) (v := .one (.e (.sl 5 0 (((([] : List Ver) ++ ((x1.drop 0).take x1.length)) ++ (([(⟨x2.node, x2.value, x2.tm⟩ : Ver)].drop 0).take ([(⟨x2.node, x2.value, x2.tm⟩ : Ver)].length))).length)))) (H' := [.row .ver x1 false, .cells [cI x2.node, cI x2.value, cI x2.tm], .row .ver [(⟨x2.node, x2.value, x2.tm⟩ : Ver)] true, .dead, .dead, .row .ver ((([] : List Ver) ++ ((x1.drop 0).take x1.length)) ++ (([(⟨x2.node, x2.value, x2.tm⟩ : Ver)].drop 0).take ([(⟨x2.node, x2.value, x2.tm⟩ : Ver)].length))) true]) rfl rfl (by kernel_rfl) trivial rfl (And.intro rfl (And.intro (And.intro rfl rfl) (trivial))) ?_
      exact WD_done [0, 5] [0, 6] (st' := ⟨[(0, .one (.e (.sl 0 0 x1.length))), (6, .one (.e (.sl 1 0 (((([] : List Ver) ++ ((x1.drop 0).take x1.length)) ++ (([(⟨x2.node, x2.value, x2.tm⟩ : Ver)].drop 0).take ([(⟨x2.node, x2.value, x2.tm⟩ : Ver)].length))).length))))], [.row .ver x1 false, .row .ver ((([] : List Ver) ++ ((x1.drop 0).take x1.length)) ++ (([(⟨x2.node, x2.value, x2.tm⟩ : Ver)].drop 0).take ([(⟨x2.node, x2.value, x2.tm⟩ : Ver)].length))) true]⟩) (by kernel_rfl) (by kernel_rfl) (And.intro rfl rfl)
  · rintro _ _ ⟨rfl, rfl⟩
    refine thenS_n ?_
    refine W_seq ?_
    refine W_seq ?_
    refine W_region ?_
    refine WO_step 1 [0, 1] [6, 13] True ⟨[(6, .one (.e (.sl 1 0 (((([] : List Ver) ++ ((x1.drop 0).take x1.length)) ++ (([(⟨x2.node, x2.value, x2.tm⟩ : Ver)].drop 0).take ([(⟨x2.node, x2.value, x2.tm⟩ : Ver)].length))).length)))), (13, .one (.e (.sl 0 0 x1.length)))], [.row .ver x1 false, .row .ver ((([] : List Ver) ++ ((x1.drop 0).take x1.length)) ++ (([(⟨x2.node, x2.value, x2.tm⟩ : Ver)].drop 0).take ([(⟨x2.node, x2.value, x2.tm⟩ : Ver)].length))) true]⟩ (by kernel_rfl) trivial ?_
    refine bindO_e h (fun b21 hc22 h => ?_)
    refine WO_call [.ro 0] Try.f36 rfl rfl rfl (by kernel_rfl) rfl rfl (by kernel_rfl) (spec_validVersions_ok n x1 b21 hc22) (And.intro (And.intro rfl rfl) (trivial)) rfl ?_
    refine WO_step 2 [0, 1] [6, 16] True ⟨[(6, .one (.e (.sl 1 0 (((([] : List Ver) ++ ((x1.drop 0).take x1.length)) ++ (([(⟨x2.node, x2.value, x2.tm⟩ : Ver)].drop 0).take ([(⟨x2.node, x2.value, x2.tm⟩ : Ver)].length))).length)))), (16, B (!b21))], [.row .ver x1 false, .row .ver ((([] : List Ver) ++ ((x1.drop 0).take x1.length)) ++ (([(⟨x2.node, x2.value, x2.tm⟩ : Ver)].drop 0).take ([(⟨x2.node, x2.value, x2.tm⟩ : Ver)].length))) true]⟩ (by kernel_rfl) trivial ?_
    refine bindO_e h (fun b26 hv27 h => ?_)
    refine WO_thru ⟨[(6, .one (.e (.sl 1 0 (((([] : List Ver) ++ ((x1.drop 0).take x1.length)) ++ (([(⟨x2.node, x2.value, x2.tm⟩ : Ver)].drop 0).take ([(⟨x2.node, x2.value, x2.tm⟩ : Ver)].length))).length)))), (20, B b26)], [.row .ver x1 false, .row .ver ((([] : List Ver) ++ ((x1.drop 0).take x1.length)) ++ (([(⟨x2.node, x2.value, x2.tm⟩ : Ver)].drop 0).take ([(⟨x2.node, x2.value, x2.tm⟩ : Ver)].length))) true]⟩ ?_ ?_
    · refine iteO_e hv27 (fun hb28 hv27 => WO_known 16 true rfl hb28 ?_) (fun hb28 hv27 => WO_known 16 false rfl hb28 ?_)
      · refine WO_step 4 [0, 1] [6, 20] True ⟨[(6, .one (.e (.sl 1 0 (((([] : List Ver) ++ ((x1.drop 0).take x1.length)) ++ (([(⟨x2.node, x2.value, x2.tm⟩ : Ver)].drop 0).take ([(⟨x2.node, x2.value, x2.tm⟩ : Ver)].length))).length)))), (20, B true)], [.row .ver x1 false, .row .ver ((([] : List Ver) ++ ((x1.drop 0).take x1.length)) ++ (([(⟨x2.node, x2.value, x2.tm⟩ : Ver)].drop 0).take ([(⟨x2.node, x2.value, x2.tm⟩ : Ver)].length))) true]⟩ (by kernel_rfl) trivial ?_
        cases hv27
        exact WO_nil rfl ⟨rfl, rfl⟩
      · refine WO_step 1 [0, 1] [6, 16, 17] True ⟨[(6, .one (.e (.sl 1 0 (((([] : List Ver) ++ ((x1.drop 0).take x1.length)) ++ (([(⟨x2.node, x2.value, x2.tm⟩ : Ver)].drop 0).take ([(⟨x2.node, x2.value, x2.tm⟩ : Ver)].length))).length)))), (16, B false), (17, .one (.e (.sl 1 0 (((([] : List Ver) ++ ((x1.drop 0).take x1.length)) ++ (([(⟨x2.node, x2.value, x2.tm⟩ : Ver)].drop 0).take ([(⟨x2.node, x2.value, x2.tm⟩ : Ver)].length))).length))))], [.row .ver x1 false, .row .ver ((([] : List Ver) ++ ((x1.drop 0).take x1.length)) ++ (([(⟨x2.node, x2.value, x2.tm⟩ : Ver)].drop 0).take ([(⟨x2.node, x2.value, x2.tm⟩ : Ver)].length))) true]⟩ (by kernel_rfl) trivial ?_
        refine bindO_e hv27 (fun b29 hc30 hv27 => ?_)
        refine WO_call [.ro 1] Try.f36 rfl rfl rfl (by kernel_rfl) rfl rfl (by kernel_rfl) (spec_validVersions_ok n ((([] : List Ver) ++ ((x1.drop 0).take x1.length)) ++ (([(⟨x2.node, x2.value, x2.tm⟩ : Ver)].drop 0).take ([(⟨x2.node, x2.value, x2.tm⟩ : Ver)].length))) b29 hc30) (And.intro (And.intro rfl rfl) (trivial)) rfl ?_
        refine WO_step 2 [0, 1] [6, 20] True ⟨[(6, .one (.e (.sl 1 0 (((([] : List Ver) ++ ((x1.drop 0).take x1.length)) ++ (([(⟨x2.node, x2.value, x2.tm⟩ : Ver)].drop 0).take ([(⟨x2.node, x2.value, x2.tm⟩ : Ver)].length))).length)))), (20, B (!b29))], [.row .ver x1 false, .row .ver ((([] : List Ver) ++ ((x1.drop 0).take x1.length)) ++ (([(⟨x2.node, x2.value, x2.tm⟩ : Ver)].drop 0).take ([(⟨x2.node, x2.value, x2.tm⟩ : Ver)].length))) true]⟩ (by kernel_rfl) trivial ?_
        cases hv27
        exact WO_nil rfl ⟨rfl, rfl⟩
    · refine thenS_n ?_
      refine iteO_e h (fun hb32 h => W_true rfl hb32 ?_) (fun hb32 h => W_false rfl hb32 ?_)
      · refine W_seq ?_
        refine W_region ?_
        refine WO_step 2 [0] [4, 5] True ⟨[(4, .one (.e (.nsl))), (5, B false)], [.row .ver x1 false]⟩ (by kernel_rfl) trivial ?_
        refine WO_nilrow 4 .ver rfl ?_
        refine WO_sub [0, 1] [4, 5] (st' := ⟨[(4, .one (.e (.sl 1 0 (([] : List Ver).length)))), (5, B false)], [.row .ver x1 false, .row .ver ([] : List Ver) true]⟩) (by kernel_rfl) ?_
        refine WO_nil rfl ?_
        refine thenS_n ?_
        refine W_ret ?_
        refine thenS_r ?_
        cases h
        exact ⟨[0, 1], True, by kernel_rfl, trivial⟩
      · refine W_sub [0, 1] [6] (st' := ⟨[(6, .one (.e (.sl 1 0 (((([] : List Ver) ++ ((x1.drop 0).take x1.length)) ++ (([(⟨x2.node, x2.value, x2.tm⟩ : Ver)].drop 0).take ([(⟨x2.node, x2.value, x2.tm⟩ : Ver)].length))).length))))], [.row .ver x1 false, .row .ver ((([] : List Ver) ++ ((x1.drop 0).take x1.length)) ++ (([(⟨x2.node, x2.value, x2.tm⟩ : Ver)].drop 0).take ([(⟨x2.node, x2.value, x2.tm⟩ : Ver)].length))) true]⟩) (by kernel_rfl) ?_
        refine W_skip ?_
        refine thenS_n ?_
        refine W_seq ?_
        refine W_region ?_
        refine WO_step 3 [0, 1] [4, 5] True ⟨[(4, .one (.e (.sl 1 0 (((([] : List Ver) ++ ((x1.drop 0).take x1.length)) ++ (([(⟨x2.node, x2.value, x2.tm⟩ : Ver)].drop 0).take ([(⟨x2.node, x2.value, x2.tm⟩ : Ver)].length))).length)))), (5, B true)], [.row .ver x1 false, .row .ver ((([] : List Ver) ++ ((x1.drop 0).take x1.length)) ++ (([(⟨x2.node, x2.value, x2.tm⟩ : Ver)].drop 0).take ([(⟨x2.node, x2.value, x2.tm⟩ : Ver)].length))) true]⟩ (by kernel_rfl) trivial ?_
        refine WO_nil rfl ?_
        refine thenS_n ?_
        refine W_ret ?_
        cases h
        exact ⟨[0, 1], True, by kernel_rfl, trivial⟩

/- spec.someVersions -/
def spec_someVersions_L4 (k2 : Nat) (x1 : List Int) : Nat → Int → (List Ver) → Int → Int → Option ((Int × (List Ver)))
| 0, _, _, _, _ => none
| n + 1, i437, x438, i439, i440 =>
 iteO (decide (0 < i440))
 (bindO (spec_reader_pick x1 k2 i437 4) fun i500 =>
 bindO (spec_someValue x1 k2 (w64 (i437 + 1))) fun (i502, i503) =>
 bindO (spec_AddVersion n x438 (⟨i500, i503, (if 100 < i439 then 100 else i439)⟩ : Ver)) fun (x505, b506) =>
 bindO (iteO b506
 (some x505)
 (some x438)) fun x509 =>
 bindO (spec_reader_pick x1 k2 i502 6) fun i512 =>
 spec_someVersions_L4 k2 x1 n (w64 (i502 + 1)) x509 (w64 (i439 + i512)) (w64 (i440 - 1)))
 (some (i437, x438))

theorem spec_someVersions_L4_ok (w : World) (X : Nat → Prop) (θ : List Loc) (k2 : Nat) (x1 : List Int) (v : (Int × (List Ver))) : ∀ (n : Nat) (i437 : Int) (x438 : List Ver) (i439 : Int) (i440 : Int), spec_someVersions_L4 k2 x1 n i437 x438 i439 i440 = some v → WL EE ⟨w, X, θ, 61, 2⟩ (subC [1, 1, 1, 0, 1, 4, 4] (bodyC Try.f39)) (fun (e : Exit) (s : St) => (match v with | (i479, x480) => e = .exit 0 ∧ s = ⟨[(0, .one (.e (.p 0 0))), (3, .one (.e (.sl 2 0 x480.length)))], [.cells [.sl 1 0 k2, cI i479], .row .u8 x1 false, .row .ver x480 true]⟩ : Prop)) ⟨[(0, .one (.e (.p 0 0))), (3, .one (.e (.sl 2 0 x438.length))), (4, I i439), (5, I i440)], [.cells [.sl 1 0 k2, cI i437], .row .u8 x1 false, .row .ver x438 true]⟩ := by
  intro n
  induction n with
  | zero => intro _ _ _ _ h; exact none_e h
  | succ n ih =>
    intro i437 x438 i439 i440 h
    rw [spec_someVersions_L4] at h
    refine WL_round ?_
    refine W_seq ?_
    refine W_seq ?_
    refine W_region ?_
    refine WO_step 2 [0, 1, 2] [0, 3, 4, 5, 15] (True ∧ True) ⟨[(0, .one (.e (.p 0 0))), (3, .one (.e (.sl 2 0 x438.length))), (4, I i439), (5, I i440), (15, B (decide (0 < i440)))], [.cells [.sl 1 0 k2, cI i437], .row .u8 x1 false, .row .ver x438 true]⟩ (by kernel_rfl) ⟨trivial, trivial⟩ ?_
    refine WO_nil rfl ?_
    refine thenS_n ?_
    refine iteO_e h (fun hb483 h => W_true rfl hb483 ?_) (fun hb483 h => W_false rfl hb483 ?_)
    · refine W_sub [0, 1, 2] [0, 3, 4, 5] (st' := ⟨[(0, .one (.e (.p 0 0))), (3, .one (.e (.sl 2 0 x438.length))), (4, I i439), (5, I i440)], [.cells [.sl 1 0 k2, cI i437], .row .u8 x1 false, .row .ver x438 true]⟩) (by kernel_rfl) ?_
      refine W_skip ?_
      refine thenS_n ?_
      refine W_seq ?_
      refine W_block ?_
      refine W_seq ?_
      refine W_region ?_
      refine WO_step 2 [0, 1, 2] [0, 3, 4, 5, 19, 20] True ⟨[(0, .one (.e (.p 0 0))), (3, .one (.e (.sl 2 0 x438.length))), (4, I i439), (5, I i440), (19, .one (.e (.sl 2 0 x438.length))), (20, .one (.e (.p 0 0)))], [.cells [.sl 1 0 k2, cI i437], .row .u8 x1 false, .row .ver x438 true]⟩ (by kernel_rfl) trivial ?_
      refine bindO_e h (fun i500 hc501 h => ?_)
      refine WO_call [.own 0, .ro 1] Try.f42 rfl rfl rfl (by kernel_rfl) rfl rfl (by kernel_rfl) (spec_reader_pick_ok x1 k2 i437 4 i500 hc501) (And.intro (trivial) (And.intro (And.intro rfl rfl) (trivial))) rfl ?_
      refine WO_step 1 [0, 1, 2] [0, 3, 4, 5, 19, 21, 22] True ⟨[(0, .one (.e (.p 0 0))), (3, .one (.e (.sl 2 0 x438.length))), (4, I i439), (5, I i440), (19, .one (.e (.sl 2 0 x438.length))), (21, I i500), (22, .one (.e (.p 0 0)))], [.cells [.sl 1 0 k2, cI (w64 (i437 + 1))], .row .u8 x1 false, .row .ver x438 true]⟩ (by kernel_rfl) trivial ?_
      refine bindO_e h (fun v515 hc504 h => ?_)
      obtain ⟨i502, i503⟩ := v515
      refine WO_call [.own 0, .ro 1] Try.f44 rfl rfl rfl (by kernel_rfl) rfl rfl (by kernel_rfl) (spec_someValue_ok x1 k2 (w64 (i437 + 1)) i502 i503 hc504) (And.intro (trivial) (And.intro (And.intro rfl rfl) (trivial))) rfl ?_
      refine WO_step 3 [0, 1, 2] [0, 3, 4, 5, 19, 26] (True ∧ True) ⟨[(0, .one (.e (.p 0 0))), (3, .one (.e (.sl 2 0 x438.length))), (4, I i439), (5, I i440), (19, .one (.e (.sl 2 0 x438.length))), (26, AGG [cI i500, cI i503, cI (if 100 < i439 then 100 else i439)])], [.cells [.sl 1 0 k2, cI i502], .row .u8 x1 false, .row .ver x438 true]⟩ (by kernel_rfl) ⟨trivial, trivial⟩ ?_
      refine bindO_e h (fun v514 hc507 h => ?_)
      obtain ⟨x505, b506⟩ := v514
      refine WO_call [.ro 2] Try.f28 rfl rfl rfl (by kernel_rfl) rfl rfl (by kernel_rfl) (spec_AddVersion_ok n x438 (⟨i500, i503, (if 100 < i439 then 100 else i439)⟩ : Ver) x505 b506 hc507) (And.intro (And.intro rfl rfl) (trivial)) rfl ?_
      refine WO_step 5 [0, 1, 2, 3] [0, 3, 4, 5, 6, 7] True ⟨[(0, .one (.e (.p 0 0))), (3, .one (.e (.sl 2 0 x438.length))), (4, I i439), (5, I i440), (6, .one (.e (.sl 3 0 x505.length))), (7, B b506)], [.cells [.sl 1 0 k2, cI i502], .row .u8 x1 false, .row .ver x438 true, .row .ver x505 true]⟩ (by kernel_rfl) trivial ?_
      refine WO_nil rfl ?_
      refine thenS_n ?_
      refine W_seq ?_
      refine W_seq ?_
      refine W_region ?_
      refine WO_step 1 [0, 1, 2, 3] [0, 3, 4, 5, 6, 30] True ⟨[(0, .one (.e (.p 0 0))), (3, .one (.e (.sl 2 0 x438.length))), (4, I i439), (5, I i440), (6, .one (.e (.sl 3 0 x505.length))), (30, B b506)], [.cells [.sl 1 0 k2, cI i502], .row .u8 x1 false, .row .ver x438 true, .row .ver x505 true]⟩ (by kernel_rfl) trivial ?_
      refine WO_nil rfl ?_
      refine thenS_n ?_
      refine bindO_e h (fun x509 hx509 h => ?_)
      refine W_cut (Q' := fun (e : Exit) (s : St) => e = .normal ∧ s = ⟨[(0, .one (.e (.p 0 0))), (3, .one (.e (.sl 2 0 x509.length))), (4, I i439), (5, I i440)], [.cells [.sl 1 0 k2, cI i502], .row .u8 x1 false, .row .ver x509 true]⟩) ?_ ?_
      · refine iteO_e hx509 (fun hb511 hx509 => W_true rfl hb511 ?_) (fun hb511 hx509 => W_false rfl hb511 ?_)
        · refine W_region ?_
          refine WO_step 2 [0, 1, 3] [0, 3, 4, 5] True ⟨[(0, .one (.e (.p 0 0))), (3, .one (.e (.sl 2 0 x505.length))), (4, I i439), (5, I i440)], [.cells [.sl 1 0 k2, cI i502], .row .u8 x1 false, .row .ver x505 true]⟩ (by kernel_rfl) trivial ?_
          refine WO_nil rfl ?_
          cases hx509
          exact And.intro rfl rfl
        · refine W_sub [0, 1, 2] [0, 3, 4, 5] (st' := ⟨[(0, .one (.e (.p 0 0))), (3, .one (.e (.sl 2 0 x438.length))), (4, I i439), (5, I i440)], [.cells [.sl 1 0 k2, cI i502], .row .u8 x1 false, .row .ver x438 true]⟩) (by kernel_rfl) ?_
          refine W_skip ?_
          cases hx509
          exact And.intro rfl rfl
      · rintro _ _ ⟨rfl, rfl⟩
        refine thenS_n ?_
        refine W_region ?_
        refine WO_step 2 [0, 1, 2] [0, 3, 5, 32, 33] True ⟨[(0, .one (.e (.p 0 0))), (3, .one (.e (.sl 2 0 x509.length))), (5, I i440), (32, I i439), (33, .one (.e (.p 0 0)))], [.cells [.sl 1 0 k2, cI i502], .row .u8 x1 false, .row .ver x509 true]⟩ (by kernel_rfl) trivial ?_
        refine bindO_e h (fun i512 hc513 h => ?_)
        refine WO_call [.own 0, .ro 1] Try.f42 rfl rfl rfl (by kernel_rfl) rfl rfl (by kernel_rfl) (spec_reader_pick_ok x1 k2 i502 6 i512 hc513) (And.intro (trivial) (And.intro (And.intro rfl rfl) (trivial))) rfl ?_
        refine WO_step 2 [0, 1, 2] [0, 3, 4, 5] (True ∧ True) ⟨[(0, .one (.e (.p 0 0))), (3, .one (.e (.sl 2 0 x509.length))), (4, I (w64 (i439 + i512))), (5, I i440)], [.cells [.sl 1 0 k2, cI (w64 (i502 + 1))], .row .u8 x1 false, .row .ver x509 true]⟩ (by kernel_rfl) ⟨trivial, trivial⟩ ?_
        refine WO_nil rfl ?_
        refine blockS_n ?_
        refine thenS_n ?_
        refine W_region ?_
        refine WO_step 3 [0, 1, 2] [0, 3, 4, 5] (True ∧ True) ⟨[(0, .one (.e (.p 0 0))), (3, .one (.e (.sl 2 0 x509.length))), (4, I (w64 (i439 + i512))), (5, I (w64 (i440 - 1)))], [.cells [.sl 1 0 k2, cI (w64 (i502 + 1))], .row .u8 x1 false, .row .ver x509 true]⟩ (by kernel_rfl) ⟨trivial, trivial⟩ ?_
        refine WO_nil rfl ?_
        refine thenS_n ?_
        exact ih _ _ _ _ h
    · refine W_sub [0, 1, 2] [0, 3] (st' := ⟨[(0, .one (.e (.p 0 0))), (3, .one (.e (.sl 2 0 x438.length)))], [.cells [.sl 1 0 k2, cI i437], .row .u8 x1 false, .row .ver x438 true]⟩) (by kernel_rfl) ?_
      refine W_exit ?_
      refine thenS_e ?_
      refine thenS_e ?_
      cases h
      exact And.intro rfl rfl

def spec_someVersions (n : Nat) (x1 : List Int) (k2 : Nat) (i3 : Int) : Option (Int × (List Ver)) :=
 bindO (spec_reader_pick x1 k2 i3 5) fun i284 =>
 bindO (spec_reader_one x1 k2 (w64 (i3 + 1)) [6, 8, 4, 12, 1, 0, 20]) fun (i286, i287) =>
 bindO (spec_someVersions_L4 k2 x1 n i286 ([] : List Ver) i284 i287) fun v516 =>
 match v516 with
 | (i479, x480) => (bindO (iteO (decide (0 < ((x480.length : Nat) : Int)))
 (bindO (spec_reader_pick x1 k2 i479 16) fun i524 =>
 some ((w64 (i479 + 1)), (decide (i524 = 0))))
 (some (i479, false))) fun (i520, b521) =>
 bindO (iteO b521
 (bindO (spec_reader_pick x1 k2 i520 ((x480.length : Nat) : Int)) fun i546 =>
 bindO (spec_reader_one x1 k2 (w64 (i520 + 1)) [12, 0]) fun (i548, i549) =>
 bindO (spec_reader_one x1 k2 i548 [0, 1001]) fun (i551, i552) =>
 bindO (spec_reader_one x1 k2 i551 [101, 0, 5]) fun (i554, i555) =>
 guardO (0 ≤ i546 ∧ i546 < ((x480.length : Nat) : Int)) <|
 some (i554, (x480.set i546.toNat (⟨i549, i552, i555⟩ : Ver))))
 (some (i520, x480))) fun v544 =>
 match v544 with
 | (i542, x543) => (some (i542, x543)))


theorem spec_someVersions_ok (n : Nat) (x1 : List Int) (k2 : Nat) (i3 : Int) (i282 : Int) (x283 : List Ver) (h : spec_someVersions n x1 k2 i3 = some (i282, x283)) : FOk EE 39 [.one (.e (.p 0 0))] [.cells [.sl 1 0 k2, cI i3], .row .u8 x1 false] (.one (.e (.sl 2 0 x283.length))) [.cells [.sl 1 0 k2, cI i282], .row .u8 x1 false, .row .ver x283 true] := by
  unfold spec_someVersions at h
  refine FOk_of_W 61 2 Try.func39 rfl rfl (Nat.le_of_ble_eq_true rfl) rfl (fun w X θ => ?_)
  refine W_seq ?_
  refine W_region ?_
  refine WO_step 1 [0, 1] [0] True ⟨[(0, .one (.e (.p 0 0)))], [.cells [.sl 1 0 k2, cI i3], .row .u8 x1 false]⟩ (by kernel_rfl) trivial ?_
  refine WO_nil rfl ?_
  refine thenS_n ?_
  refine W_seq ?_
  refine W_region ?_
  refine WO_step 2 [0, 1, 2] [0, 3] True ⟨[(0, .one (.e (.p 0 0))), (3, .one (.e (.sl 2 0 (([] : List Ver).length))))], [.cells [.sl 1 0 k2, cI i3], .row .u8 x1 false, .row .ver ([] : List Ver) true]⟩ (by kernel_rfl) trivial ?_
  refine WO_nil rfl ?_
  refine thenS_n ?_
  refine W_seq ?_
  refine W_region ?_
  refine WO_step 1 [0, 1, 2] [0, 3, 9] True ⟨[(0, .one (.e (.p 0 0))), (3, .one (.e (.sl 2 0 (([] : List Ver).length)))), (9, .one (.e (.p 0 0)))], [.cells [.sl 1 0 k2, cI i3], .row .u8 x1 false, .row .ver ([] : List Ver) true]⟩ (by kernel_rfl) trivial ?_
  refine bindO_e h (fun i284 hc285 h => ?_)
  refine WO_call [.own 0, .ro 1] Try.f42 rfl rfl rfl (by kernel_rfl) rfl rfl (by kernel_rfl) (spec_reader_pick_ok x1 k2 i3 5 i284 hc285) (And.intro (trivial) (And.intro (And.intro rfl rfl) (trivial))) rfl ?_
  refine WO_step 1 [0, 1, 2] [0, 3, 4] True ⟨[(0, .one (.e (.p 0 0))), (3, .one (.e (.sl 2 0 (([] : List Ver).length)))), (4, I i284)], [.cells [.sl 1 0 k2, cI (w64 (i3 + 1))], .row .u8 x1 false, .row .ver ([] : List Ver) true]⟩ (by kernel_rfl) trivial ?_
  refine WO_nil rfl ?_
  refine thenS_n ?_
  refine W_seq ?_
  refine W_seq ?_
  refine W_region ?_
  refine WO_step 2 [0, 1, 2, 3] [0, 3, 4, 11, 12] True ⟨[(0, .one (.e (.p 0 0))), (3, .one (.e (.sl 2 0 (([] : List Ver).length)))), (4, I i284), (11, .one (.e (.p 0 0))), (12, .one (.e (.sl 3 0 ([6, 8, 4, 12, 1, 0, 20].length))))], [.cells [.sl 1 0 k2, cI (w64 (i3 + 1))], .row .u8 x1 false, .row .ver ([] : List Ver) true, .row .int [6, 8, 4, 12, 1, 0, 20] true]⟩ (by kernel_rfl) trivial ?_
  refine bindO_e h (fun v561 hc288 h => ?_)
  obtain ⟨i286, i287⟩ := v561
  refine WO_call [.own 0, .ro 1, .ro 3] Try.f43 rfl rfl rfl (by kernel_rfl) rfl rfl (by kernel_rfl) (spec_reader_one_ok x1 k2 (w64 (i3 + 1)) [6, 8, 4, 12, 1, 0, 20] i286 i287 hc288) (And.intro (trivial) (And.intro (And.intro rfl rfl) (And.intro (And.intro rfl rfl) (trivial)))) rfl ?_
  refine WO_step 1 [0, 1, 2] [0, 3, 4, 5] True ⟨[(0, .one (.e (.p 0 0))), (3, .one (.e (.sl 2 0 (([] : List Ver).length)))), (4, I i284), (5, I i287)], [.cells [.sl 1 0 k2, cI i286], .row .u8 x1 false, .row .ver ([] : List Ver) true]⟩ (by kernel_rfl) trivial ?_
  refine WO_nil rfl ?_
  refine thenS_n ?_
  refine W_block ?_
  refine W_loop ?_
  refine bindO_e h (fun v516 hv516 h => ?_)
  refine WL_cut (spec_someVersions_L4_ok w X θ k2 x1 v516 n i286 ([] : List Ver) i284 i287 hv516) ?_
  obtain ⟨i479, x480⟩ := v516
  rintro _ _ ⟨rfl, rfl⟩
  refine blockS_y ?_
  refine thenS_n ?_
  refine W_seq ?_
  refine W_seq ?_
  refine W_region ?_
  refine WO_step 4 [0, 1, 2] [0, 3, 39] (True ∧ (True ∧ True)) ⟨[(0, .one (.e (.p 0 0))), (3, .one (.e (.sl 2 0 x480.length))), (39, B (decide (0 < ((x480.length : Nat) : Int))))], [.cells [.sl 1 0 k2, cI i479], .row .u8 x1 false, .row .ver x480 true]⟩ (by kernel_rfl) ⟨trivial, trivial, trivial⟩ ?_
  refine bindO_e h (fun v522 hv522 h => ?_)
  obtain ⟨i520, b521⟩ := v522
  refine WO_thru ⟨[(0, .one (.e (.p 0 0))), (3, .one (.e (.sl 2 0 x480.length))), (43, B b521)], [.cells [.sl 1 0 k2, cI i520], .row .u8 x1 false, .row .ver x480 true]⟩ ?_ ?_
  · refine iteO_e hv522 (fun hb523 hv522 => WO_known 39 true rfl hb523 ?_) (fun hb523 hv522 => WO_known 39 false rfl hb523 ?_)
    · refine WO_step 1 [0, 1, 2] [0, 3, 39, 40] True ⟨[(0, .one (.e (.p 0 0))), (3, .one (.e (.sl 2 0 x480.length))), (39, B true), (40, .one (.e (.p 0 0)))], [.cells [.sl 1 0 k2, cI i479], .row .u8 x1 false, .row .ver x480 true]⟩ (by kernel_rfl) trivial ?_
      refine bindO_e hv522 (fun i524 hc525 hv522 => ?_)
      refine WO_call [.own 0, .ro 1] Try.f42 rfl rfl rfl (by kernel_rfl) rfl rfl (by kernel_rfl) (spec_reader_pick_ok x1 k2 i479 16 i524 hc525) (And.intro (trivial) (And.intro (And.intro rfl rfl) (trivial))) rfl ?_
      refine WO_step 2 [0, 1, 2] [0, 3, 43] (True ∧ True) ⟨[(0, .one (.e (.p 0 0))), (3, .one (.e (.sl 2 0 x480.length))), (43, B (decide (i524 = 0)))], [.cells [.sl 1 0 k2, cI (w64 (i479 + 1))], .row .u8 x1 false, .row .ver x480 true]⟩ (by kernel_rfl) ⟨trivial, trivial⟩ ?_
      cases hv522
      exact WO_nil rfl ⟨rfl, rfl⟩
    · refine WO_step 4 [0, 1, 2] [0, 3, 43] True ⟨[(0, .one (.e (.p 0 0))), (3, .one (.e (.sl 2 0 x480.length))), (43, B false)], [.cells [.sl 1 0 k2, cI i479], .row .u8 x1 false, .row .ver x480 true]⟩ (by kernel_rfl) trivial ?_
      cases hv522
      exact WO_nil rfl ⟨rfl, rfl⟩
  · refine thenS_n ?_
    refine bindO_e h (fun v544 hv544 h => ?_)
    refine W_cut (Q' := fun (e : Exit) (s : St) => (match v544 with | (i542, x543) => e = .normal ∧ s = ⟨[(3, .one (.e (.sl 2 0 x543.length)))], [.cells [.sl 1 0 k2, cI i542], .row .u8 x1 false, .row .ver x543 true]⟩ : Prop)) ?_ ?_
    · refine iteO_e hv544 (fun hb545 hv544 => W_true rfl hb545 ?_) (fun hb545 hv544 => W_false rfl hb545 ?_)
      · refine W_region ?_
        refine WO_step 4 [0, 1, 2] [0, 3, 44, 45, 47] (True ∧ True) ⟨[(0, .one (.e (.p 0 0))), (3, .one (.e (.sl 2 0 x480.length))), (44, .one (.e (.sl 2 0 x480.length))), (45, .one (.e (.p 0 0))), (47, I ((x480.length : Nat) : Int))], [.cells [.sl 1 0 k2, cI i520], .row .u8 x1 false, .row .ver x480 true]⟩ (by kernel_rfl) ⟨trivial, trivial⟩ ?_
        refine bindO_e hv544 (fun i546 hc547 hv544 => ?_)
        refine WO_call [.own 0, .ro 1] Try.f42 rfl rfl rfl (by kernel_rfl) rfl rfl (by kernel_rfl) (spec_reader_pick_ok x1 k2 i520 ((x480.length : Nat) : Int) i546 hc547) (And.intro (trivial) (And.intro (And.intro rfl rfl) (trivial))) rfl ?_
        refine WO_step 2 [0, 1, 2, 3] [0, 3, 44, 48, 49, 50] True ⟨[(0, .one (.e (.p 0 0))), (3, .one (.e (.sl 2 0 x480.length))), (44, .one (.e (.sl 2 0 x480.length))), (48, I i546), (49, .one (.e (.p 0 0))), (50, .one (.e (.sl 3 0 ([12, 0].length))))], [.cells [.sl 1 0 k2, cI (w64 (i520 + 1))], .row .u8 x1 false, .row .ver x480 true, .row .int [12, 0] true]⟩ (by kernel_rfl) trivial ?_
        refine bindO_e hv544 (fun v560 hc550 hv544 => ?_)
        obtain ⟨i548, i549⟩ := v560
        refine WO_call [.own 0, .ro 1, .ro 3] Try.f43 rfl rfl rfl (by kernel_rfl) rfl rfl (by kernel_rfl) (spec_reader_one_ok x1 k2 (w64 (i520 + 1)) [12, 0] i548 i549 hc550) (And.intro (trivial) (And.intro (And.intro rfl rfl) (And.intro (And.intro rfl rfl) (trivial)))) rfl ?_
        refine WO_step 2 [0, 1, 2, 4] [0, 3, 44, 48, 51, 52, 53] True ⟨[(0, .one (.e (.p 0 0))), (3, .one (.e (.sl 2 0 x480.length))), (44, .one (.e (.sl 2 0 x480.length))), (48, I i546), (51, I i549), (52, .one (.e (.p 0 0))), (53, .one (.e (.sl 3 0 ([0, 1001].length))))], [.cells [.sl 1 0 k2, cI i548], .row .u8 x1 false, .row .ver x480 true, .row .int [0, 1001] true]⟩ (by kernel_rfl) trivial ?_
        refine bindO_e hv544 (fun v559 hc553 hv544 => ?_)
        obtain ⟨i551, i552⟩ := v559
        refine WO_call [.own 0, .ro 1, .ro 3] Try.f43 rfl rfl rfl (by kernel_rfl) rfl rfl (by kernel_rfl) (spec_reader_one_ok x1 k2 i548 [0, 1001] i551 i552 hc553) (And.intro (trivial) (And.intro (And.intro rfl rfl) (And.intro (And.intro rfl rfl) (trivial)))) rfl ?_
        refine WO_step 2 [0, 1, 2, 4] [3, 44, 48, 51, 54, 55, 56] True ⟨[(3, .one (.e (.sl 2 0 x480.length))), (44, .one (.e (.sl 2 0 x480.length))), (48, I i546), (51, I i549), (54, I i552), (55, .one (.e (.p 0 0))), (56, .one (.e (.sl 3 0 ([101, 0, 5].length))))], [.cells [.sl 1 0 k2, cI i551], .row .u8 x1 false, .row .ver x480 true, .row .int [101, 0, 5] true]⟩ (by kernel_rfl) trivial ?_
        refine bindO_e hv544 (fun v558 hc556 hv544 => ?_)
        obtain ⟨i554, i555⟩ := v558
        refine WO_call [.own 0, .ro 1, .ro 3] Try.f43 rfl rfl rfl (by kernel_rfl) rfl rfl (by kernel_rfl) (spec_reader_one_ok x1 k2 i551 [101, 0, 5] i554 i555 hc556) (And.intro (trivial) (And.intro (And.intro rfl rfl) (And.intro (And.intro rfl rfl) (trivial)))) rfl ?_
        refine guardO_e hv544 (fun hg557 hv544 => ?_)
        refine WO_step 3 [0, 1, 2] [3] ((0 ≤ i546 ∧ i546 < ((x480.length : Nat) : Int)) ∧ (True ∧ True)) ⟨[(3, .one (.e (.sl 2 0 x480.length)))], [.cells [.sl 1 0 k2, cI i554], .row .u8 x1 false, .row .ver (x480.set i546.toNat (⟨i549, i552, i555⟩ : Ver)) true]⟩ (by kernel_rfl) ⟨hg557, trivial, trivial⟩ ?_
        refine WO_eq (st' := ⟨[(3, .one (.e (.sl 2 0 ((x480.set i546.toNat (⟨i549, i552, i555⟩ : Ver)).length))))], [.cells [.sl 1 0 k2, cI i554], .row .u8 x1 false, .row .ver (x480.set i546.toNat (⟨i549, i552, i555⟩ : Ver)) true]⟩) (by simp only [List.length_set]) ?_
        refine WO_nil rfl ?_
        cases hv544
        exact And.intro rfl rfl
      · refine W_sub [0, 1, 2] [3] (st' := ⟨[(3, .one (.e (.sl 2 0 x480.length)))], [.cells [.sl 1 0 k2, cI i520], .row .u8 x1 false, .row .ver x480 true]⟩) (by kernel_rfl) ?_
        refine W_skip ?_
        cases hv544
        exact And.intro rfl rfl
    · obtain ⟨i542, x543⟩ := v544
      rintro _ _ ⟨rfl, rfl⟩
      refine thenS_n ?_
      refine W_seq ?_
      refine W_region ?_
      refine WO_step 2 [0, 1, 2] [2] True ⟨[(2, .one (.e (.sl 2 0 x543.length)))], [.cells [.sl 1 0 k2, cI i542], .row .u8 x1 false, .row .ver x543 true]⟩ (by kernel_rfl) trivial ?_
      refine WO_nil rfl ?_
      refine thenS_n ?_
      refine W_ret ?_
      cases h
      exact ⟨[0, 1, 2], True, by kernel_rfl, trivial⟩

/- spec.DrawValidVersions -/
def spec_DrawValidVersions (n : Nat) (x1 : List Int) : Option ((List Ver)) :=
 bindO (spec_newReader x1) fun k9 =>
 bindO (spec_someVersions n x1 k9 0) fun (i11, x12) =>
 some x12

theorem spec_DrawValidVersions_ok (n : Nat) (x1 : List Int) (x8 : List Ver) (h : spec_DrawValidVersions n x1 = some x8) : FOk EE 22 [.one (.e (.sl 0 0 x1.length))] [.row .u8 x1 false] (.one (.e (.sl 1 0 x8.length))) [.row .u8 x1 false, .row .ver x8 true] := by
  unfold spec_DrawValidVersions at h
  refine FOk_of_W 6 1 Try.func22 rfl rfl (Nat.le_of_ble_eq_true rfl) rfl (fun w X θ => ?_)
  refine W_seq ?_
  refine W_region ?_
  refine WO_step 1 [0] [0] True ⟨[(0, .one (.e (.sl 0 0 x1.length)))], [.row .u8 x1 false]⟩ (by kernel_rfl) trivial ?_
  refine WO_nil rfl ?_
  refine thenS_n ?_
  refine W_seq ?_
  refine W_region ?_
  refine WO_step 1 [0] [3] True ⟨[(3, .one (.e (.sl 0 0 x1.length)))], [.row .u8 x1 false]⟩ (by kernel_rfl) trivial ?_
  refine bindO_e h (fun k9 hc10 h => ?_)
  refine WO_call [.ro 0] Try.f40 rfl rfl rfl (by kernel_rfl) rfl rfl (by kernel_rfl) (spec_newReader_ok x1 k9 hc10) (And.intro (And.intro rfl rfl) (trivial)) rfl ?_
  refine WO_sub [0, 1] [4] (st' := ⟨[(4, .one (.e (.p 1 0)))], [.row .u8 x1 false, .cells [.sl 0 0 k9, cI 0]]⟩) (by kernel_rfl) ?_
  refine bindO_e h (fun v14 hc13 h => ?_)
  obtain ⟨i11, x12⟩ := v14
  refine WO_call [.own 1, .ro 0] Try.f39 rfl rfl rfl (by kernel_rfl) rfl rfl (by kernel_rfl) (spec_someVersions_ok n x1 k9 0 i11 x12 hc13) (And.intro (trivial) (And.intro (And.intro rfl rfl) (trivial))) rfl ?_
  refine WO_step 1 [0, 2] [2] True ⟨[(2, .one (.e (.sl 1 0 x12.length)))], [.row .u8 x1 false, .row .ver x12 true]⟩ (by kernel_rfl) trivial ?_
  refine WO_nil rfl ?_
  refine thenS_n ?_
  refine W_ret ?_
  cases h
  exact ⟨[0, 1], True, by kernel_rfl, trivial⟩

/- laws.FnValidVersions -/
def laws_FnValidVersions (n : Nat) (x1 : List Int) : Option (Bool) :=
 iteO (decide (1048576 < ((x1.length : Nat) : Int)))
 (some true)
 (bindO (spec_DrawValidVersions n x1) fun x36 =>
 bindO (impl_ValidVersions n x36) fun b38 =>
 bindO (spec_ValidVersions n x36) fun b40 =>
 iteO ((!(b38 == b40)) || ((!b38) || (decide (((x36.length : Nat) : Int) = 0))))
 (bindO (spec_ValidVersions n x36) fun b51 =>
 some (b38 == b51))
 (guardO ((((x36.length : Nat) : Int) : Int) ≠ 0) <|
 guardO (0 ≤ (((x1.length : Nat) : Int).tmod ((x36.length : Nat) : Int)) ∧ (((x1.length : Nat) : Int).tmod ((x36.length : Nat) : Int)) ≤ ((x36.length : Nat) : Int)) <|
 guardO (0 = 0 ∧ ([] : List Ver).length = ([] : List Ver).length ∧ ([] : List Ver).length + ((x36.drop 0).take ((((x1.length : Nat) : Int).tmod ((x36.length : Nat) : Int)).toNat)).length ≤ 1099511627776) <|
 guardO (0 ≤ (w64 ((((x1.length : Nat) : Int).tmod ((x36.length : Nat) : Int)) + 1)) ∧ (w64 ((((x1.length : Nat) : Int).tmod ((x36.length : Nat) : Int)) + 1)) ≤ ((x36.length : Nat) : Int)) <|
 guardO (0 = 0 ∧ (([] : List Ver) ++ ((x36.drop 0).take ((((x1.length : Nat) : Int).tmod ((x36.length : Nat) : Int)).toNat))).length = (([] : List Ver) ++ ((x36.drop 0).take ((((x1.length : Nat) : Int).tmod ((x36.length : Nat) : Int)).toNat))).length ∧ (([] : List Ver) ++ ((x36.drop 0).take ((((x1.length : Nat) : Int).tmod ((x36.length : Nat) : Int)).toNat))).length + ((x36.drop ((w64 ((((x1.length : Nat) : Int).tmod ((x36.length : Nat) : Int)) + 1)).toNat)).take (x36.length - (w64 ((((x1.length : Nat) : Int).tmod ((x36.length : Nat) : Int)) + 1)).toNat)).length ≤ 1099511627776) <|
 bindO (impl_ValidVersions n ((([] : List Ver) ++ ((x36.drop 0).take ((((x1.length : Nat) : Int).tmod ((x36.length : Nat) : Int)).toNat))) ++ ((x36.drop ((w64 ((((x1.length : Nat) : Int).tmod ((x36.length : Nat) : Int)) + 1)).toNat)).take (x36.length - (w64 ((((x1.length : Nat) : Int).tmod ((x36.length : Nat) : Int)) + 1)).toNat)))) fun b58 =>
 bindO (iteO b58
 (bindO (impl_ValidVersions n ([] : List Ver)) fun b61 =>
 some b61)
 (some false)) fun b63 =>
 some b63))

theorem laws_FnValidVersions_ok (n : Nat) (x1 : List Int) (b33 : Bool) (h : laws_FnValidVersions n x1 = some b33) : FOk EE 4 [.one (.e (.sl 0 0 x1.length))] [.row .u8 x1 false] (B b33) [.row .u8 x1 false] := by
  unfold laws_FnValidVersions at h
  refine FOk_of_W 49 1 Try.func4 rfl rfl (Nat.le_of_ble_eq_true rfl) rfl (fun w X θ => ?_)
  refine W_seq ?_
  refine W_region ?_
  refine WO_step 1 [0] [0] True ⟨[(0, .one (.e (.sl 0 0 x1.length)))], [.row .u8 x1 false]⟩ (by kernel_rfl) trivial ?_
  refine WO_nil rfl ?_
  refine thenS_n ?_
  refine W_seq ?_
  refine W_seq ?_
  refine W_region ?_
  refine WO_step 3 [0] [0, 8] (True ∧ (True ∧ True)) ⟨[(0, .one (.e (.sl 0 0 x1.length))), (8, B (decide (1048576 < ((x1.length : Nat) : Int))))], [.row .u8 x1 false]⟩ (by kernel_rfl) ⟨trivial, trivial, trivial⟩ ?_
  refine WO_nil rfl ?_
  refine thenS_n ?_
  refine iteO_e h (fun hb35 h => W_true rfl hb35 ?_) (fun hb35 h => W_false rfl hb35 ?_)
  · refine W_seq ?_
    refine W_region ?_
    refine WO_step 1 [0] [2] True ⟨[(2, B true)], [.row .u8 x1 false]⟩ (by kernel_rfl) trivial ?_
    refine WO_nil rfl ?_
    refine thenS_n ?_
    refine W_ret ?_
    refine thenS_r ?_
    cases h
    exact ⟨[0], True, by kernel_rfl, trivial⟩
  · refine W_sub [0] [0] (st' := ⟨[(0, .one (.e (.sl 0 0 x1.length)))], [.row .u8 x1 false]⟩) (by kernel_rfl) ?_
    refine W_skip ?_
    refine thenS_n ?_
    refine W_seq ?_
    refine W_region ?_
    refine WO_step 1 [0] [0, 9] True ⟨[(0, .one (.e (.sl 0 0 x1.length))), (9, .one (.e (.sl 0 0 x1.length)))], [.row .u8 x1 false]⟩ (by kernel_rfl) trivial ?_
    refine bindO_e h (fun x36 hc37 h => ?_)
    refine WO_call [.ro 0] Try.f22 rfl rfl rfl (by kernel_rfl) rfl rfl (by kernel_rfl) (spec_DrawValidVersions_ok n x1 x36 hc37) (And.intro (And.intro rfl rfl) (trivial)) rfl ?_
    refine WO_step 1 [0, 1] [0, 3] True ⟨[(0, .one (.e (.sl 0 0 x1.length))), (3, .one (.e (.sl 1 0 x36.length)))], [.row .u8 x1 false, .row .ver x36 true]⟩ (by kernel_rfl) trivial ?_
    refine WO_nil rfl ?_
    refine thenS_n ?_
    refine W_seq ?_
    refine W_region ?_
    refine WO_step 1 [0, 1] [0, 3, 11] True ⟨[(0, .one (.e (.sl 0 0 x1.length))), (3, .one (.e (.sl 1 0 x36.length))), (11, .one (.e (.sl 1 0 x36.length)))], [.row .u8 x1 false, .row .ver x36 true]⟩ (by kernel_rfl) trivial ?_
    refine bindO_e h (fun b38 hc39 h => ?_)
    refine WO_call [.ro 1] Try.f20 rfl rfl rfl (by kernel_rfl) rfl rfl (by kernel_rfl) (impl_ValidVersions_ok n x36 b38 hc39) (And.intro (And.intro rfl rfl) (trivial)) rfl ?_
    refine WO_step 1 [0, 1] [0, 3, 4] True ⟨[(0, .one (.e (.sl 0 0 x1.length))), (3, .one (.e (.sl 1 0 x36.length))), (4, B b38)], [.row .u8 x1 false, .row .ver x36 true]⟩ (by kernel_rfl) trivial ?_
    refine WO_nil rfl ?_
    refine thenS_n ?_
    refine W_seq ?_
    refine W_seq ?_
    refine W_region ?_
    refine WO_step 2 [0, 1] [0, 3, 4, 13, 14] True ⟨[(0, .one (.e (.sl 0 0 x1.length))), (3, .one (.e (.sl 1 0 x36.length))), (4, B b38), (13, B b38), (14, .one (.e (.sl 1 0 x36.length)))], [.row .u8 x1 false, .row .ver x36 true]⟩ (by kernel_rfl) trivial ?_
    refine bindO_e h (fun b40 hc41 h => ?_)
    refine WO_call [.ro 1] Try.f18 rfl rfl rfl (by kernel_rfl) rfl rfl (by kernel_rfl) (spec_ValidVersions_ok n x36 b40 hc41) (And.intro (And.intro rfl rfl) (trivial)) rfl ?_
    refine WO_step 2 [0, 1] [0, 3, 4, 17] (True ∧ True) ⟨[(0, .one (.e (.sl 0 0 x1.length))), (3, .one (.e (.sl 1 0 x36.length))), (4, B b38), (17, B (!(b38 == b40)))], [.row .u8 x1 false, .row .ver x36 true]⟩ (by kernel_rfl) ⟨trivial, trivial⟩ ?_
    refine WO_thru ⟨[(0, .one (.e (.sl 0 0 x1.length))), (3, .one (.e (.sl 1 0 x36.length))), (4, B b38), (25, B ((!(b38 == b40)) || ((!b38) || (decide (((x36.length : Nat) : Int) = 0)))))], [.row .u8 x1 false, .row .ver x36 true]⟩ ?_ ?_
    · refine WO_if 17 rfl (fun hb45 => ?_) (fun hb45 => ?_)
      · refine WO_step 8 [0, 1] [0, 3, 4, 25] True ⟨[(0, .one (.e (.sl 0 0 x1.length))), (3, .one (.e (.sl 1 0 x36.length))), (4, B b38), (25, B true)], [.row .u8 x1 false, .row .ver x36 true]⟩ (by kernel_rfl) trivial ?_
        exact WO_nil rfl ⟨rfl, by first | rfl | (rw [hb45]; first | done | rfl)⟩
      · refine WO_step 4 [0, 1] [0, 3, 4, 21] True ⟨[(0, .one (.e (.sl 0 0 x1.length))), (3, .one (.e (.sl 1 0 x36.length))), (4, B b38), (21, B (!b38))], [.row .u8 x1 false, .row .ver x36 true]⟩ (by kernel_rfl) trivial ?_
        refine WO_if 21 rfl (fun hb46 => ?_) (fun hb46 => ?_)
        · refine WO_step 4 [0, 1] [0, 3, 4, 25] True ⟨[(0, .one (.e (.sl 0 0 x1.length))), (3, .one (.e (.sl 1 0 x36.length))), (4, B b38), (25, B true)], [.row .u8 x1 false, .row .ver x36 true]⟩ (by kernel_rfl) trivial ?_
          exact WO_nil rfl ⟨rfl, by first | rfl | (simp only [hb45, hb46]; first | done | rfl)⟩
        · refine WO_step 4 [0, 1] [0, 3, 4, 25] (True ∧ (True ∧ True)) ⟨[(0, .one (.e (.sl 0 0 x1.length))), (3, .one (.e (.sl 1 0 x36.length))), (4, B b38), (25, B (decide (((x36.length : Nat) : Int) = 0)))], [.row .u8 x1 false, .row .ver x36 true]⟩ (by kernel_rfl) ⟨trivial, trivial, trivial⟩ ?_
          exact WO_nil rfl ⟨rfl, by first | rfl | (simp only [hb45, hb46]; first | done | rfl)⟩
    · refine thenS_n ?_
      refine iteO_e h (fun hb50 h => W_true rfl hb50 ?_) (fun hb50 h => W_false rfl hb50 ?_)
      · refine W_seq ?_
        refine W_region ?_
        refine WO_step 2 [0, 1] [26, 27] True ⟨[(26, B b38), (27, .one (.e (.sl 1 0 x36.length)))], [.row .u8 x1 false, .row .ver x36 true]⟩ (by kernel_rfl) trivial ?_
        refine bindO_e h (fun b51 hc52 h => ?_)
        refine WO_call [.ro 1] Try.f18 rfl rfl rfl (by kernel_rfl) rfl rfl (by kernel_rfl) (spec_ValidVersions_ok n x36 b51 hc52) (And.intro (And.intro rfl rfl) (trivial)) rfl ?_
        refine WO_step 2 [0] [2] (True ∧ True) ⟨[(2, B (b38 == b51))], [.row .u8 x1 false]⟩ (by kernel_rfl) ⟨trivial, trivial⟩ ?_
        refine WO_nil rfl ?_
        refine thenS_n ?_
        refine W_ret ?_
        refine thenS_r ?_
        cases h
        exact ⟨[0], True, by kernel_rfl, trivial⟩
      · refine W_sub [0, 1] [0, 3] (st' := ⟨[(0, .one (.e (.sl 0 0 x1.length))), (3, .one (.e (.sl 1 0 x36.length)))], [.row .u8 x1 false, .row .ver x36 true]⟩) (by kernel_rfl) ?_
        refine W_skip ?_
        refine thenS_n ?_
        refine W_seq ?_
        refine W_region ?_
        refine guardO_e h (fun hg53 h => ?_)
        refine WO_step 6 [0, 1] [3, 5] (True ∧ (True ∧ (((((x36.length : Nat) : Int) : Int) ≠ 0) ∧ True))) ⟨[(3, .one (.e (.sl 1 0 x36.length))), (5, I (((x1.length : Nat) : Int).tmod ((x36.length : Nat) : Int)))], [.row .u8 x1 false, .row .ver x36 true]⟩ (by kernel_rfl) ⟨trivial, trivial, hg53, trivial⟩ ?_
        refine WO_nil rfl ?_
        refine thenS_n ?_
        refine W_seq ?_
        refine guardO_e h (fun hg54 h => ?_)
        refine guardO_e h (fun hg55 h => ?_)
        refine guardO_e h (fun hg56 h => ?_)
        refine guardO_e h (fun hg57 h => ?_)
        refine bindO_e h (fun b58 hc59 h => ?_)
        refine bindO_e h (fun b63 hv64 h => ?_)
        refine W_cut (Q' := fun (e : Exit) (s : St) => e = .normal ∧ s = ⟨[(2, B b63)], [.row .u8 x1 false]⟩) ?_ ?_
        · refine iteO_e hv64 (fun hb60 hv64 => ?_) (fun hb60 hv64 => ?_)
          · refine bindO_e hv64 (fun b61 hc62 hv64 => ?_)
            refine W_draw [] false (by kernel_rfl) (by kernel_rfl) ?_
            refine WD_takeK [1, 2, 5, 6, 7] [36, 37, 40, 42] [36, 37, 40, 42] (φ := (True ∧ True ∧ True)) (ls' := #[false, true, true, false, false, true, true, true, false, false, false, false, false, false, false]) (Ts' := [(36, .one (.e (.sl 1 0 x36.length))), (37, I (((x1.length : Nat) : Int).tmod ((x36.length : Nat) : Int))), (40, .one (.e (.sl 1 0 x36.length))), (42, I (w64 ((((x1.length : Nat) : Int).tmod ((x36.length : Nat) : Int)) + 1)))]) (st' := ⟨[(36, .one (.e (.sl 1 0 x36.length))), (37, I (((x1.length : Nat) : Int).tmod ((x36.length : Nat) : Int))), (40, .one (.e (.sl 1 0 x36.length))), (42, I (w64 ((((x1.length : Nat) : Int).tmod ((x36.length : Nat) : Int)) + 1)))], [.row .u8 x1 false, .row .ver x36 true]⟩) (n2 := 10) (by kernel_rfl) ⟨trivial, trivial, trivial⟩ rfl ?_
            refine WD_all [0, 3, 8] (n := 9) (by kernel_rfl) rfl (And.intro ?_ (And.intro ?_ (?_)))
            · refine WM_op (φ := True) (v := .one (.e (.sl 2 0 (([] : List Ver).length)))) (H' := [.row .u8 x1 false, .row .ver x36 true, .row .ver ([] : List Ver) true]) rfl rfl (by kernel_rfl) trivial rfl (And.intro rfl (And.intro rfl (trivial))) ?_
              refine WD_all [3, 8] (n := 8) (by kernel_rfl) rfl (And.intro ?_ (?_))
              · refine WM_op (φ := 0 ≤ (((x1.length : Nat) : Int).tmod ((x36.length : Nat) : Int)) ∧ (((x1.length : Nat) : Int).tmod ((x36.length : Nat) : Int)) ≤ ((x36.length : Nat) : Int)) (v := .one (.e (.sl 1 0 ((((x1.length : Nat) : Int).tmod ((x36.length : Nat) : Int)).toNat)))) (H' := [.row .u8 x1 false, .row .ver x36 true, .row .ver ([] : List Ver) true]) rfl rfl (by kernel_rfl) hg54 rfl (And.intro rfl (And.intro rfl (trivial))) ?_
                refine WD_all [4, 8] (n := 7) (by kernel_rfl) rfl (And.intro ?_ (?_))
                · refine WM_op (φ := 0 = 0 ∧ ([] : List Ver).length = ([] : List Ver).length ∧ ([] : List Ver).length + ((x36.drop 0).take ((((x1.length : Nat) : Int).tmod ((x36.length : Nat) : Int)).toNat)).length ≤ 1099511627776) (v := .one (.e (.sl 3 0 ((([] : List Ver) ++ ((x36.drop 0).take ((((x1.length : Nat) : Int).tmod ((x36.length : Nat) : Int)).toNat))).length)))) (H' := [.row .u8 x1 false, .row .ver x36 true, .dead, .row .ver (([] : List Ver) ++ ((x36.drop 0).take ((((x1.length : Nat) : Int).tmod ((x36.length : Nat) : Int)).toNat))) true]) rfl rfl (by kernel_rfl) hg55 rfl (And.intro rfl (And.intro rfl (trivial))) ?_
                  refine WD_all [8] (n := 6) (by kernel_rfl) rfl ?_
                  refine WM_op (φ := 0 ≤ (w64 ((((x1.length : Nat) : Int).tmod ((x36.length : Nat) : Int)) + 1)) ∧ (w64 ((((x1.length : Nat) : Int).tmod ((x36.length : Nat) : Int)) + 1)) ≤ ((x36.length : Nat) : Int)) (v := .one (.e (.sl 1 ((w64 ((((x1.length : Nat) : Int).tmod ((x36.length : Nat) : Int)) + 1)).toNat) (x36.length - (w64 ((((x1.length : Nat) : Int).tmod ((x36.length : Nat) : Int)) + 1)).toNat)))) (H' := [.row .u8 x1 false, .row .ver x36 true, .dead, .row .ver (([] : List Ver) ++ ((x36.drop 0).take ((((x1.length : Nat) : Int).tmod ((x36.length : Nat) : Int)).toNat))) true]) rfl rfl (by kernel_rfl) hg56 rfl (And.intro rfl (And.intro rfl (trivial))) ?_
                  refine WD_all [9] (n := 5) (by kernel_rfl) rfl ?_
                  refine WM_op (φ := 0 = 0 ∧ (([] : List Ver) ++ ((x36.drop 0).take ((((x1.length : Nat) : Int).tmod ((x36.length : Nat) : Int)).toNat))).length = (([] : List Ver) ++ ((x36.drop 0).take ((((x1.length : Nat) : Int).tmod ((x36.length : Nat) : Int)).toNat))).length ∧ (([] : List Ver) ++ ((x36.drop 0).take ((((x1.length : Nat) : Int).tmod ((x36.length : Nat) : Int)).toNat))).length + ((x36.drop ((w64 ((((x1.length : Nat) : Int).tmod ((x36.length : Nat) : Int)) + 1)).toNat)).take (x36.length - (w64 ((((x1.length : Nat) : Int).tmod ((x36.length : Nat) : Int)) + 1)).toNat)).length ≤ 1099511627776) (v := .one (.e (.sl 4 0 (((([] : List Ver) ++ ((x36.drop 0).take ((((x1.length : Nat) : Int).tmod ((x36.length : Nat) : Int)).toNat))) ++ ((x36.drop ((w64 ((((x1.length : Nat) : Int).tmod ((x36.length : Nat) : Int)) + 1)).toNat)).take (x36.length - (w64 ((((x1.length : Nat) : Int).tmod ((x36.length : Nat) : Int)) + 1)).toNat))).length)))) (H' := [.row .u8 x1 false, .row .ver x36 true, .dead, .dead, .row .ver ((([] : List Ver) ++ ((x36.drop 0).take ((((x1.length : Nat) : Int).tmod ((x36.length : Nat) : Int)).toNat))) ++ ((x36.drop ((w64 ((((x1.length : Nat) : Int).tmod ((x36.length : Nat) : Int)) + 1)).toNat)).take (x36.length - (w64 ((((x1.length : Nat) : Int).tmod ((x36.length : Nat) : Int)) + 1)).toNat))) true]) rfl rfl (by kernel_rfl) hg57 rfl (And.intro rfl (And.intro rfl (trivial))) ?_
                  refine WD_all [10] (n := 4) (by kernel_rfl) rfl ?_
                  refine WM_call [.ro 4] Try.f20 rfl rfl (by kernel_rfl) rfl rfl (by kernel_rfl) (impl_ValidVersions_ok n ((([] : List Ver) ++ ((x36.drop 0).take ((((x1.length : Nat) : Int).tmod ((x36.length : Nat) : Int)).toNat))) ++ ((x36.drop ((w64 ((((x1.length : Nat) : Int).tmod ((x36.length : Nat) : Int)) + 1)).toNat)).take (x36.length - (w64 ((((x1.length : Nat) : Int).tmod ((x36.length : Nat) : Int)) + 1)).toNat))) b58 hc59) (And.intro (And.intro rfl rfl) (trivial)) rfl (And.intro rfl (And.intro rfl (trivial))) ?_
                  refine WD_takeK [11] [46] [46] (φ := True) (ls' := #[true, true, true, true, true, true, true, true, true, true, true, true, false, false, false]) (Ts' := [(46, B b58)]) (st' := ⟨[(46, B b58)], [.row .u8 x1 false, .row .ver x36 true, .dead, .dead, .row .ver ((([] : List Ver) ++ ((x36.drop 0).take ((((x1.length : Nat) : Int).tmod ((x36.length : Nat) : Int)).toNat))) ++ ((x36.drop ((w64 ((((x1.length : Nat) : Int).tmod ((x36.length : Nat) : Int)) + 1)).toNat)).take (x36.length - (w64 ((((x1.length : Nat) : Int).tmod ((x36.length : Nat) : Int)) + 1)).toNat))) true]⟩) (n2 := 3) (by kernel_rfl) trivial rfl ?_
                  refine WD_known 46 true rfl rfl hb60 ?_
                  refine WD_all [12] (n := 2) (by kernel_rfl) rfl ?_
                  refine WM_callN [(0, .ver)] (H1 := [.row .u8 x1 false, .row .ver x36 true, .dead, .dead, .row .ver ((([] : List Ver) ++ ((x36.drop 0).take ((((x1.length : Nat) : Int).tmod ((x36.length : Nat) : Int)).toNat))) ++ ((x36.drop ((w64 ((((x1.length : Nat) : Int).tmod ((x36.length : Nat) : Int)) + 1)).toNat)).take (x36.length - (w64 ((((x1.length : Nat) : Int).tmod ((x36.length : Nat) : Int)) + 1)).toNat))) true, .row .ver ([] : List Ver) true]) [.ro 5] Try.f20 rfl rfl (by kernel_rfl) rfl rfl (by kernel_rfl) (impl_ValidVersions_ok n ([] : List Ver) b61 hc62) (And.intro (And.intro rfl rfl) (trivial)) rfl (And.intro rfl (And.intro rfl (trivial))) ?_
                  refine WD_takeK [13, 14] [2] [2] (φ := True) (ls' := #[true, true, true, true, true, true, true, true, true, true, true, true, true, true, true]) (Ts' := [(2, B b61)]) (st' := ⟨[(2, B b61)], [.row .u8 x1 false, .row .ver x36 true, .dead, .dead, .row .ver ((([] : List Ver) ++ ((x36.drop 0).take ((((x1.length : Nat) : Int).tmod ((x36.length : Nat) : Int)).toNat))) ++ ((x36.drop ((w64 ((((x1.length : Nat) : Int).tmod ((x36.length : Nat) : Int)) + 1)).toNat)).take (x36.length - (w64 ((((x1.length : Nat) : Int).tmod ((x36.length : Nat) : Int)) + 1)).toNat))) true, .row .ver ([] : List Ver) true]⟩) (n2 := 0) (by kernel_rfl) trivial rfl ?_
                  exact WD_done [0] [2] (st' := ⟨[(2, B b61)], [.row .u8 x1 false]⟩) (by kernel_rfl) (by kernel_rfl) (And.intro rfl (by cases hv64; rfl))
                · refine WM_op (φ := 0 ≤ (w64 ((((x1.length : Nat) : Int).tmod ((x36.length : Nat) : Int)) + 1)) ∧ (w64 ((((x1.length : Nat) : Int).tmod ((x36.length : Nat) : Int)) + 1)) ≤ ((x36.length : Nat) : Int)) (v := .one (.e (.sl 1 ((w64 ((((x1.length : Nat) : Int).tmod ((x36.length : Nat) : Int)) + 1)).toNat) (x36.length - (w64 ((((x1.length : Nat) : Int).tmod ((x36.length : Nat) : Int)) + 1)).toNat)))) (H' := [.row .u8 x1 false, .row .ver x36 true, .row .ver ([] : List Ver) true]) rfl rfl (by kernel_rfl) hg56 rfl (And.intro rfl (And.intro rfl (trivial))) ?_
                  refine WD_all [4] (n := 6) (by kernel_rfl) rfl ?_
                  refine WM_op (φ := 0 = 0 ∧ ([] : List Ver).length = ([] : List Ver).length ∧ ([] : List Ver).length + ((x36.drop 0).take ((((x1.length : Nat) : Int).tmod ((x36.length : Nat) : Int)).toNat)).length ≤ 1099511627776) (v := .one (.e (.sl 3 0 ((([] : List Ver) ++ ((x36.drop 0).take ((((x1.length : Nat) : Int).tmod ((x36.length : Nat) : Int)).toNat))).length)))) (H' := [.row .u8 x1 false, .row .ver x36 true, .dead, .row .ver (([] : List Ver) ++ ((x36.drop 0).take ((((x1.length : Nat) : Int).tmod ((x36.length : Nat) : Int)).toNat))) true]) rfl rfl (by kernel_rfl) hg55 rfl (And.intro rfl (And.intro rfl (trivial))) ?_
                  refine WD_all [9] (n := 5) (by kernel_rfl) rfl ?_
                  refine WM_op (φ := 0 = 0 ∧ (([] : List Ver) ++ ((x36.drop 0).take ((((x1.length : Nat) : Int).tmod ((x36.length : Nat) : Int)).toNat))).length = (([] : List Ver) ++ ((x36.drop 0).take ((((x1.length : Nat) : Int).tmod ((x36.length : Nat) : Int)).toNat))).length ∧ (([] : List Ver) ++ ((x36.drop 0).take ((((x1.length : Nat) : Int).tmod ((x36.length : Nat) : Int)).toNat))).length + ((x36.drop ((w64 ((((x1.length : Nat) : Int).tmod ((x36.length : Nat) : Int)) + 1)).toNat)).take (x36.length - (w64 ((((x1.length : Nat) : Int).tmod ((x36.length : Nat) : Int)) + 1)).toNat)).length ≤ 1099511627776) (v := .one (.e (.sl 4 0 (((([] : List Ver) ++ ((x36.drop 0).take ((((x1.length : Nat) : Int).tmod ((x36.length : Nat) : Int)).toNat))) ++ ((x36.drop ((w64 ((((x1.length : Nat) : Int).tmod ((x36.length : Nat) : Int)) + 1)).toNat)).take (x36.length - (w64 ((((x1.length : Nat) : Int).tmod ((x36.length : Nat) : Int)) + 1)).toNat))).length)))) (H' := [.row .u8 x1 false, .row .ver x36 true, .dead, .dead, .row .ver ((([] : List Ver) ++ ((x36.drop 0).take ((((x1.length : Nat) : Int).tmod ((x36.length : Nat) : Int)).toNat))) ++ ((x36.drop ((w64 ((((x1.length : Nat) : Int).tmod ((x36.length : Nat) : Int)) + 1)).toNat)).take (x36.length - (w64 ((((x1.length : Nat) : Int).tmod ((x36.length : Nat) : Int)) + 1)).toNat))) true]) rfl rfl (by kernel_rfl) hg57 rfl (And.intro rfl (And.intro rfl (trivial))) ?_
                  refine WD_all [10] (n := 4) (by kernel_rfl) rfl ?_
                  refine WM_call [.ro 4] Try.f20 rfl rfl (by kernel_rfl) rfl rfl (by kernel_rfl) (impl_ValidVersions_ok n ((([] : List Ver) ++ ((x36.drop 0).take ((((x1.length : Nat) : Int).tmod ((x36.length : Nat) : Int)).toNat))) ++ ((x36.drop ((w64 ((((x1.length : Nat) : Int).tmod ((x36.length : Nat) : Int)) + 1)).toNat)).take (x36.length - (w64 ((((x1.length : Nat) : Int).tmod ((x36.length : Nat) : Int)) + 1)).toNat))) b58 hc59) (And.intro (And.intro rfl rfl) (trivial)) rfl (And.intro rfl (And.intro rfl (trivial))) ?_
                  refine WD_takeK [11] [46] [46] (φ := True) (ls' := #[true, true, true, true, true, true, true, true, true, true, true, true, false, false, false]) (Ts' := [(46, B b58)]) (st' := ⟨[(46, B b58)], [.row .u8 x1 false, .row .ver x36 true, .dead, .dead, .row .ver ((([] : List Ver) ++ ((x36.drop 0).take ((((x1.length : Nat) : Int).tmod ((x36.length : Nat) : Int)).toNat))) ++ ((x36.drop ((w64 ((((x1.length : Nat) : Int).tmod ((x36.length : Nat) : Int)) + 1)).toNat)).take (x36.length - (w64 ((((x1.length : Nat) : Int).tmod ((x36.length : Nat) : Int)) + 1)).toNat))) true]⟩) (n2 := 3) (by kernel_rfl) trivial rfl ?_
                  refine WD_known 46 true rfl rfl hb60 ?_
                  refine WD_all [12] (n := 2) (by kernel_rfl) rfl ?_
                  refine WM_callN [(0, .ver)] (H1 := [.row .u8 x1 false, .row .ver x36 true, .dead, .dead, .row .ver ((([] : List Ver) ++ ((x36.drop 0).take ((((x1.length : Nat) : Int).tmod ((x36.length : Nat) : Int)).toNat))) ++ ((x36.drop ((w64 ((((x1.length : Nat) : Int).tmod ((x36.length : Nat) : Int)) + 1)).toNat)).take (x36.length - (w64 ((((x1.length : Nat) : Int).tmod ((x36.length : Nat) : Int)) + 1)).toNat))) true, .row .ver ([] : List Ver) true]) [.ro 5] Try.f20 rfl rfl (by kernel_rfl) rfl rfl (by kernel_rfl) (impl_ValidVersions_ok n ([] : List Ver) b61 hc62) (And.intro (And.intro rfl rfl) (trivial)) rfl (And.intro rfl (And.intro rfl (trivial))) ?_
                  refine WD_takeK [13, 14] [2] [2] (φ := True) (ls' := #[true, true, true, true, true, true, true, true, true, true, true, true, true, true, true]) (Ts' := [(2, B b61)]) (st' := ⟨[(2, B b61)], [.row .u8 x1 false, .row .ver x36 true, .dead, .dead, .row .ver ((([] : List Ver) ++ ((x36.drop 0).take ((((x1.length : Nat) : Int).tmod ((x36.length : Nat) : Int)).toNat))) ++ ((x36.drop ((w64 ((((x1.length : Nat) : Int).tmod ((x36.length : Nat) : Int)) + 1)).toNat)).take (x36.length - (w64 ((((x1.length : Nat) : Int).tmod ((x36.length : Nat) : Int)) + 1)).toNat))) true, .row .ver ([] : List Ver) true]⟩) (n2 := 0) (by kernel_rfl) trivial rfl ?_
                  exact WD_done [0] [2] (st' := ⟨[(2, B b61)], [.row .u8 x1 false]⟩) (by kernel_rfl) (by kernel_rfl) (And.intro rfl (by cases hv64; rfl))
              · refine WM_op (φ := 0 ≤ (w64 ((((x1.length : Nat) : Int).tmod ((x36.length : Nat) : Int)) + 1)) ∧ (w64 ((((x1.length : Nat) : Int).tmod ((x36.length : Nat) : Int)) + 1)) ≤ ((x36.length : Nat) : Int)) (v := .one (.e (.sl 1 ((w64 ((((x1.length : Nat) : Int).tmod ((x36.length : Nat) : Int)) + 1)).toNat) (x36.length - (w64 ((((x1.length : Nat) : Int).tmod ((x36.length : Nat) : Int)) + 1)).toNat)))) (H' := [.row .u8 x1 false, .row .ver x36 true, .row .ver ([] : List Ver) true]) rfl rfl (by kernel_rfl) hg56 rfl (And.intro rfl (And.intro rfl (trivial))) ?_
                refine WD_all [3] (n := 7) (by kernel_rfl) rfl ?_
                refine WM_op (φ := 0 ≤ (((x1.length : Nat) : Int).tmod ((x36.length : Nat) : Int)) ∧ (((x1.length : Nat) : Int).tmod ((x36.length : Nat) : Int)) ≤ ((x36.length : Nat) : Int)) (v := .one (.e (.sl 1 0 ((((x1.length : Nat) : Int).tmod ((x36.length : Nat) : Int)).toNat)))) (H' := [.row .u8 x1 false, .row .ver x36 true, .row .ver ([] : List Ver) true]) rfl rfl (by kernel_rfl) hg54 rfl (And.intro rfl (And.intro rfl (trivial))) ?_
                refine WD_all [4] (n := 6) (by kernel_rfl) rfl ?_
                refine WM_op (φ := 0 = 0 ∧ ([] : List Ver).length = ([] : List Ver).length ∧ ([] : List Ver).length + ((x36.drop 0).take ((((x1.length : Nat) : Int).tmod ((x36.length : Nat) : Int)).toNat)).length ≤ 1099511627776) (v := .one (.e (.sl 3 0 ((([] : List Ver) ++ ((x36.drop 0).take ((((x1.length : Nat) : Int).tmod ((x36.length : Nat) : Int)).toNat))).length)))) (H' := [.row .u8 x1 false, .row .ver x36 true, .dead, .row .ver (([] : List Ver) ++ ((x36.drop 0).take ((((x1.length : Nat) : Int).tmod ((x36.length : Nat) : Int)).toNat))) true]) rfl rfl (by kernel_rfl) hg55 rfl (And.intro rfl (And.intro rfl (trivial))) ?_
                refine WD_all [9] (n := 5) (by kernel_rfl) rfl ?_
                refine WM_op (φ := 0 = 0 ∧ (([] : List Ver) ++ ((x36.drop 0).take ((((x1.length : Nat) : Int).tmod ((x36.length : Nat) : Int)).toNat))).length = (([] : List Ver) ++ ((x36.drop 0).take ((((x1.length : Nat) : Int).tmod ((x36.length : Nat) : Int)).toNat))).length ∧ (([] : List Ver) ++ ((x36.drop 0).take ((((x1.length : Nat) : Int).tmod ((x36.length : Nat) : Int)).toNat))).length + ((x36.drop ((w64 ((((x1.length : Nat) : Int).tmod ((x36.length : Nat) : Int)) + 1)).toNat)).take (x36.length - (w64 ((((x1.length : Nat) : Int).tmod ((x36.length : Nat) : Int)) + 1)).toNat)).length ≤ 1099511627776) (v := .one (.e (.sl 4 0 (((([] : List Ver) ++ ((x36.drop 0).take ((((x1.length : Nat) : Int).tmod ((x36.length : Nat) : Int)).toNat))) ++ ((x36.drop ((w64 ((((x1.length : Nat) : Int).tmod ((x36.length : Nat) : Int)) + 1)).toNat)).take (x36.length - (w64 ((((x1.length : Nat) : Int).tmod ((x36.length : Nat) : Int)) + 1)).toNat))).length)))) (H' := [.row .u8 x1 false, .row .ver x36 true, .dead, .dead, .row .ver ((([] : List Ver) ++ ((x36.drop 0).take ((((x1.length : Nat) : Int).tmod ((x36.length : Nat) : Int)).toNat))) ++ ((x36.drop ((w64 ((((x1.length : Nat) : Int).tmod ((x36.length : Nat) : Int)) + 1)).toNat)).take (x36.length - (w64 ((((x1.length : Nat) : Int).tmod ((x36.length : Nat) : Int)) + 1)).toNat))) true]) rfl rfl (by kernel_rfl) hg57 rfl (And.intro rfl (And.intro rfl (trivial))) ?_
                refine WD_all [10] (n := 4) (by kernel_rfl) rfl ?_
                refine WM_call [.ro 4] Try.f20 rfl rfl (by kernel_rfl) rfl rfl (by kernel_rfl) (impl_ValidVersions_ok n ((([] : List Ver) ++ ((x36.drop 0).take ((((x1.length : Nat) : Int).tmod ((x36.length : Nat) : Int)).toNat))) ++ ((x36.drop ((w64 ((((x1.length : Nat) : Int).tmod ((x36.length : Nat) : Int)) + 1)).toNat)).take (x36.length - (w64 ((((x1.length : Nat) : Int).tmod ((x36.length : Nat) : Int)) + 1)).toNat))) b58 hc59) (And.intro (And.intro rfl rfl) (trivial)) rfl (And.intro rfl (And.intro rfl (trivial))) ?_
                refine WD_takeK [11] [46] [46] (φ := True) (ls' := #[true, true, true, true, true, true, true, true, true, true, true, true, false, false, false]) (Ts' := [(46, B b58)]) (st' := ⟨[(46, B b58)], [.row .u8 x1 false, .row .ver x36 true, .dead, .dead, .row .ver ((([] : List Ver) ++ ((x36.drop 0).take ((((x1.length : Nat) : Int).tmod ((x36.length : Nat) : Int)).toNat))) ++ ((x36.drop ((w64 ((((x1.length : Nat) : Int).tmod ((x36.length : Nat) : Int)) + 1)).toNat)).take (x36.length - (w64 ((((x1.length : Nat) : Int).tmod ((x36.length : Nat) : Int)) + 1)).toNat))) true]⟩) (n2 := 3) (by kernel_rfl) trivial rfl ?_
                refine WD_known 46 true rfl rfl hb60 ?_
                refine WD_all [12] (n := 2) (by kernel_rfl) rfl ?_
                refine WM_callN [(0, .ver)] (H1 := [.row .u8 x1 false, .row .ver x36 true, .dead, .dead, .row .ver ((([] : List Ver) ++ ((x36.drop 0).take ((((x1.length : Nat) : Int).tmod ((x36.length : Nat) : Int)).toNat))) ++ ((x36.drop ((w64 ((((x1.length : Nat) : Int).tmod ((x36.length : Nat) : Int)) + 1)).toNat)).take (x36.length - (w64 ((((x1.length : Nat) : Int).tmod ((x36.length : Nat) : Int)) + 1)).toNat))) true, .row .ver ([] : List Ver) true]) [.ro 5] Try.f20 rfl rfl (by kernel_rfl) rfl rfl (by kernel_rfl) (impl_ValidVersions_ok n ([] : List Ver) b61 hc62) (And.intro (And.intro rfl rfl) (trivial)) rfl (And.intro rfl (And.intro rfl (trivial))) ?_
                refine WD_takeK [13, 14] [2] [2] (φ := True) (ls' := #[true, true, true, true, true, true, true, true, true, true, true, true, true, true, true]) (Ts' := [(2, B b61)]) (st' := ⟨[(2, B b61)], [.row .u8 x1 false, .row .ver x36 true, .dead, .dead, .row .ver ((([] : List Ver) ++ ((x36.drop 0).take ((((x1.length : Nat) : Int).tmod ((x36.length : Nat) : Int)).toNat))) ++ ((x36.drop ((w64 ((((x1.length : Nat) : Int).tmod ((x36.length : Nat) : Int)) + 1)).toNat)).take (x36.length - (w64 ((((x1.length : Nat) : Int).tmod ((x36.length : Nat) : Int)) + 1)).toNat))) true, .row .ver ([] : List Ver) true]⟩) (n2 := 0) (by kernel_rfl) trivial rfl ?_
                exact WD_done [0] [2] (st' := ⟨[(2, B b61)], [.row .u8 x1 false]⟩) (by kernel_rfl) (by kernel_rfl) (And.intro rfl (by cases hv64; rfl))
            · refine WM_op (φ := 0 ≤ (((x1.length : Nat) : Int).tmod ((x36.length : Nat) : Int)) ∧ (((x1.length : Nat) : Int).tmod ((x36.length : Nat) : Int)) ≤ ((x36.length : Nat) : Int)) (v := .one (.e (.sl 1 0 ((((x1.length : Nat) : Int).tmod ((x36.length : Nat) : Int)).toNat)))) (H' := [.row .u8 x1 false, .row .ver x36 true]) rfl rfl (by kernel_rfl) hg54 rfl (And.intro rfl (And.intro rfl (trivial))) ?_
              refine WD_all [0, 8] (n := 8) (by kernel_rfl) rfl (And.intro ?_ (?_))
              · refine WM_op (φ := True) (v := .one (.e (.sl 2 0 (([] : List Ver).length)))) (H' := [.row .u8 x1 false, .row .ver x36 true, .row .ver ([] : List Ver) true]) rfl rfl (by kernel_rfl) trivial rfl (And.intro rfl (And.intro rfl (trivial))) ?_
                refine WD_all [4, 8] (n := 7) (by kernel_rfl) rfl (And.intro ?_ (?_))
                · refine WM_op (φ := 0 = 0 ∧ ([] : List Ver).length = ([] : List Ver).length ∧ ([] : List Ver).length + ((x36.drop 0).take ((((x1.length : Nat) : Int).tmod ((x36.length : Nat) : Int)).toNat)).length ≤ 1099511627776) (v := .one (.e (.sl 3 0 ((([] : List Ver) ++ ((x36.drop 0).take ((((x1.length : Nat) : Int).tmod ((x36.length : Nat) : Int)).toNat))).length)))) (H' := [.row .u8 x1 false, .row .ver x36 true, .dead, .row .ver (([] : List Ver) ++ ((x36.drop 0).take ((((x1.length : Nat) : Int).tmod ((x36.length : Nat) : Int)).toNat))) true]) rfl rfl (by kernel_rfl) hg55 rfl (And.intro rfl (And.intro rfl (trivial))) ?_
                  refine WD_all [8] (n := 6) (by kernel_rfl) rfl ?_
                  refine WM_op (φ := 0 ≤ (w64 ((((x1.length : Nat) : Int).tmod ((x36.length : Nat) : Int)) + 1)) ∧ (w64 ((((x1.length : Nat) : Int).tmod ((x36.length : Nat) : Int)) + 1)) ≤ ((x36.length : Nat) : Int)) (v := .one (.e (.sl 1 ((w64 ((((x1.length : Nat) : Int).tmod ((x36.length : Nat) : Int)) + 1)).toNat) (x36.length - (w64 ((((x1.length : Nat) : Int).tmod ((x36.length : Nat) : Int)) + 1)).toNat)))) (H' := [.row .u8 x1 false, .row .ver x36 true, .dead, .row .ver (([] : List Ver) ++ ((x36.drop 0).take ((((x1.length : Nat) : Int).tmod ((x36.length : Nat) : Int)).toNat))) true]) rfl rfl (by kernel_rfl) hg56 rfl (And.intro rfl (And.intro rfl (trivial))) ?_
                  refine WD_all [9] (n := 5) (by kernel_rfl) rfl ?_
                  refine WM_op (φ := 0 = 0 ∧ (([] : List Ver) ++ ((x36.drop 0).take ((((x1.length : Nat) : Int).tmod ((x36.length : Nat) : Int)).toNat))).length = (([] : List Ver) ++ ((x36.drop 0).take ((((x1.length : Nat) : Int).tmod ((x36.length : Nat) : Int)).toNat))).length ∧ (([] : List Ver) ++ ((x36.drop 0).take ((((x1.length : Nat) : Int).tmod ((x36.length : Nat) : Int)).toNat))).length + ((x36.drop ((w64 ((((x1.length : Nat) : Int).tmod ((x36.length : Nat) : Int)) + 1)).toNat)).take (x36.length - (w64 ((((x1.length : Nat) : Int).tmod ((x36.length : Nat) : Int)) + 1)).toNat)).length ≤ 1099511627776) (v := .one (.e (.sl 4 0 (((([] : List Ver) ++ ((x36.drop 0).take ((((x1.length : Nat) : Int).tmod ((x36.length : Nat) : Int)).toNat))) ++ ((x36.drop ((w64 ((((x1.length : Nat) : Int).tmod ((x36.length : Nat) : Int)) + 1)).toNat)).take (x36.length - (w64 ((((x1.length : Nat) : Int).tmod ((x36.length : Nat) : Int)) + 1)).toNat))).length)))) (H' := [.row .u8 x1 false, .row .ver x36 true, .dead, .dead, .row .ver ((([] : List Ver) ++ ((x36.drop 0).take ((((x1.length : Nat) : Int).tmod ((x36.length : Nat) : Int)).toNat))) ++ ((x36.drop ((w64 ((((x1.length : Nat) : Int).tmod ((x36.length : Nat) : Int)) + 1)).toNat)).take (x36.length - (w64 ((((x1.length : Nat) : Int).tmod ((x36.length : Nat) : Int)) + 1)).toNat))) true]) rfl rfl (by kernel_rfl) hg57 rfl (And.intro rfl (And.intro rfl (trivial))) ?_
                  refine WD_all [10] (n := 4) (by kernel_rfl) rfl ?_
                  refine WM_call [.ro 4] Try.f20 rfl rfl (by kernel_rfl) rfl rfl (by kernel_rfl) (impl_ValidVersions_ok n ((([] : List Ver) ++ ((x36.drop 0).take ((((x1.length : Nat) : Int).tmod ((x36.length : Nat) : Int)).toNat))) ++ ((x36.drop ((w64 ((((x1.length : Nat) : Int).tmod ((x36.length : Nat) : Int)) + 1)).toNat)).take (x36.length - (w64 ((((x1.length : Nat) : Int).tmod ((x36.length : Nat) : Int)) + 1)).toNat))) b58 hc59) (And.intro (And.intro rfl rfl) (trivial)) rfl (And.intro rfl (And.intro rfl (trivial))) ?_
                  refine WD_takeK [11] [46] [46] (φ := True) (ls' := #[true, true, true, true, true, true, true, true, true, true, true, true, false, false, false]) (Ts' := [(46, B b58)]) (st' := ⟨[(46, B b58)], [.row .u8 x1 false, .row .ver x36 true, .dead, .dead, .row .ver ((([] : List Ver) ++ ((x36.drop 0).take ((((x1.length : Nat) : Int).tmod ((x36.length : Nat) : Int)).toNat))) ++ ((x36.drop ((w64 ((((x1.length : Nat) : Int).tmod ((x36.length : Nat) : Int)) + 1)).toNat)).take (x36.length - (w64 ((((x1.length : Nat) : Int).tmod ((x36.length : Nat) : Int)) + 1)).toNat))) true]⟩) (n2 := 3) (by kernel_rfl) trivial rfl ?_
                  refine WD_known 46 true rfl rfl hb60 ?_
                  refine WD_all [12] (n := 2) (by kernel_rfl) rfl ?_
                  refine WM_callN [(0, .ver)] (H1 := [.row .u8 x1 false, .row .ver x36 true, .dead, .dead, .row .ver ((([] : List Ver) ++ ((x36.drop 0).take ((((x1.length : Nat) : Int).tmod ((x36.length : Nat) : Int)).toNat))) ++ ((x36.drop ((w64 ((((x1.length : Nat) : Int).tmod ((x36.length : Nat) : Int)) + 1)).toNat)).take (x36.length - (w64 ((((x1.length : Nat) : Int).tmod ((x36.length : Nat) : Int)) + 1)).toNat))) true, .row .ver ([] : List Ver) true]) [.ro 5] Try.f20 rfl rfl (by kernel_rfl) rfl rfl (by kernel_rfl) (impl_ValidVersions_ok n ([] : List Ver) b61 hc62) (And.intro (And.intro rfl rfl) (trivial)) rfl (And.intro rfl (And.intro rfl (trivial))) ?_
                  refine WD_takeK [13, 14] [2] [2] (φ := True) (ls' := #[true, true, true, true, true, true, true, true, true, true, true, true, true, true, true]) (Ts' := [(2, B b61)]) (st' := ⟨[(2, B b61)], [.row .u8 x1 false, .row .ver x36 true, .dead, .dead, .row .ver ((([] : List Ver) ++ ((x36.drop 0).take ((((x1.length : Nat) : Int).tmod ((x36.length : Nat) : Int)).toNat))) ++ ((x36.drop ((w64 ((((x1.length : Nat) : Int).tmod ((x36.length : Nat) : Int)) + 1)).toNat)).take (x36.length - (w64 ((((x1.length : Nat) : Int).tmod ((x36.length : Nat) : Int)) + 1)).toNat))) true, .row .ver ([] : List Ver) true]⟩) (n2 := 0) (by kernel_rfl) trivial rfl ?_
                  exact WD_done [0] [2] (st' := ⟨[(2, B b61)], [.row .u8 x1 false]⟩) (by kernel_rfl) (by kernel_rfl) (And.intro rfl (by cases hv64; rfl))
                · refine WM_op (φ := 0 ≤ (w64 ((((x1.length : Nat) : Int).tmod ((x36.length : Nat) : Int)) + 1)) ∧ (w64 ((((x1.length : Nat) : Int).tmod ((x36.length : Nat) : Int)) + 1)) ≤ ((x36.length : Nat) : Int)) (v := .one (.e (.sl 1 ((w64 ((((x1.length : Nat) : Int).tmod ((x36.length : Nat) : Int)) + 1)).toNat) (x36.length - (w64 ((((x1.length : Nat) : Int).tmod ((x36.length : Nat) : Int)) + 1)).toNat)))) (H' := [.row .u8 x1 false, .row .ver x36 true, .row .ver ([] : List Ver) true]) rfl rfl (by kernel_rfl) hg56 rfl (And.intro rfl (And.intro rfl (trivial))) ?_
                  refine WD_all [4] (n := 6) (by kernel_rfl) rfl ?_
                  refine WM_op (φ := 0 = 0 ∧ ([] : List Ver).length = ([] : List Ver).length ∧ ([] : List Ver).length + ((x36.drop 0).take ((((x1.length : Nat) : Int).tmod ((x36.length : Nat) : Int)).toNat)).length ≤ 1099511627776) (v := .one (.e (.sl 3 0 ((([] : List Ver) ++ ((x36.drop 0).take ((((x1.length : Nat) : Int).tmod ((x36.length : Nat) : Int)).toNat))).length)))) (H' := [.row .u8 x1 false, .row .ver x36 true, .dead, .row .ver (([] : List Ver) ++ ((x36.drop 0).take ((((x1.length : Nat) : Int).tmod ((x36.length : Nat) : Int)).toNat))) true]) rfl rfl (by kernel_rfl) hg55 rfl (And.intro rfl (And.intro rfl (trivial))) ?_
                  refine WD_all [9] (n := 5) (by kernel_rfl) rfl ?_
                  refine WM_op (φ := 0 = 0 ∧ (([] : List Ver) ++ ((x36.drop 0).take ((((x1.length : Nat) : Int).tmod ((x36.length : Nat) : Int)).toNat))).length = (([] : List Ver) ++ ((x36.drop 0).take ((((x1.length : Nat) : Int).tmod ((x36.length : Nat) : Int)).toNat))).length ∧ (([] : List Ver) ++ ((x36.drop 0).take ((((x1.length : Nat) : Int).tmod ((x36.length : Nat) : Int)).toNat))).length + ((x36.drop ((w64 ((((x1.length : Nat) : Int).tmod ((x36.length : Nat) : Int)) + 1)).toNat)).take (x36.length - (w64 ((((x1.length : Nat) : Int).tmod ((x36.length : Nat) : Int)) + 1)).toNat)).length ≤ 1099511627776) (v := .one (.e (.sl 4 0 (((([] : List Ver) ++ ((x36.drop 0).take ((((x1.length : Nat) : Int).tmod ((x36.length : Nat) : Int)).toNat))) ++ ((x36.drop ((w64 ((((x1.length : Nat) : Int).tmod ((x36.length : Nat) : Int)) + 1)).toNat)).take (x36.length - (w64 ((((x1.length : Nat) : Int).tmod ((x36.length : Nat) : Int)) + 1)).toNat))).length)))) (H' := [.row .u8 x1 false, .row .ver x36 true, .dead, .dead, .row .ver ((([] : List Ver) ++ ((x36.drop 0).take ((((x1.length : Nat) : Int).tmod ((x36.length : Nat) : Int)).toNat))) ++ ((x36.drop ((w64 ((((x1.length : Nat) : Int).tmod ((x36.length : Nat) : Int)) + 1)).toNat)).take (x36.length - (w64 ((((x1.length : Nat) : Int).tmod ((x36.length : Nat) : Int)) + 1)).toNat))) true]) rfl rfl (by kernel_rfl) hg57 rfl (And.intro rfl (And.intro rfl (trivial))) ?_
                  refine WD_all [10] (n := 4) (by kernel_rfl) rfl ?_
                  refine WM_call [.ro 4] Try.f20 rfl rfl (by kernel_rfl) rfl rfl (by kernel_rfl) (impl_ValidVersions_ok n ((([] : List Ver) ++ ((x36.drop 0).take ((((x1.length : Nat) : Int).tmod ((x36.length : Nat) : Int)).toNat))) ++ ((x36.drop ((w64 ((((x1.length : Nat) : Int).tmod ((x36.length : Nat) : Int)) + 1)).toNat)).take (x36.length - (w64 ((((x1.length : Nat) : Int).tmod ((x36.length : Nat) : Int)) + 1)).toNat))) b58 hc59) (And.intro (And.intro rfl rfl) (trivial)) rfl (And.intro rfl (And.intro rfl (trivial))) ?_
                  refine WD_takeK [11] [46] [46] (φ := True) (ls' := #[true, true, true, true, true, true, true, true, true, true, true, true, false, false, false]) (Ts' := [(46, B b58)]) (st' := ⟨[(46, B b58)], [.row .u8 x1 false, .row .ver x36 true, .dead, .dead, .row .ver ((([] : List Ver) ++ ((x36.drop 0).take ((((x1.length : Nat) : Int).tmod ((x36.length : Nat) : Int)).toNat))) ++ ((x36.drop ((w64 ((((x1.length : Nat) : Int).tmod ((x36.length : Nat) : Int)) + 1)).toNat)).take (x36.length - (w64 ((((x1.length : Nat) : Int).tmod ((x36.length : Nat) : Int)) + 1)).toNat))) true]⟩) (n2 := 3) (by kernel_rfl) trivial rfl ?_
                  refine WD_known 46 true rfl rfl hb60 ?_
                  refine WD_all [12] (n := 2) (by kernel_rfl) rfl ?_
                  refine WM_callN [(0, .ver)] (H1 := [.row .u8 x1 false, .row .ver x36 true, .dead, .dead, .row .ver ((([] : List Ver) ++ ((x36.drop 0).take ((((x1.length : Nat) : Int).tmod ((x36.length : Nat) : Int)).toNat))) ++ ((x36.drop ((w64 ((((x1.length : Nat) : Int).tmod ((x36.length : Nat) : Int)) + 1)).toNat)).take (x36.length - (w64 ((((x1.length : Nat) : Int).tmod ((x36.length : Nat) : Int)) + 1)).toNat))) true, .row .ver ([] : List Ver) true]) [.ro 5] Try.f20 rfl rfl (by kernel_rfl) rfl rfl (by kernel_rfl) (impl_ValidVersions_ok n ([] : List Ver) b61 hc62) (And.intro (And.intro rfl rfl) (trivial)) rfl (And.intro rfl (And.intro rfl (trivial))) ?_
                  refine WD_takeK [13, 14] [2] [2] (φ := True) (ls' := #[true, true, true, true, true, true, true, true, true, true, true, true, true, true, true]) (Ts' := [(2, B b61)]) (st' := ⟨[(2, B b61)], [.row .u8 x1 false, .row .ver x36 true, .dead, .dead, .row .ver ((([] : List Ver) ++ ((x36.drop 0).take ((((x1.length : Nat) : Int).tmod ((x36.length : Nat) : Int)).toNat))) ++ ((x36.drop ((w64 ((((x1.length : Nat) : Int).tmod ((x36.length : Nat) : Int)) + 1)).toNat)).take (x36.length - (w64 ((((x1.length : Nat) : Int).tmod ((x36.length : Nat) : Int)) + 1)).toNat))) true, .row .ver ([] : List Ver) true]⟩) (n2 := 0) (by kernel_rfl) trivial rfl ?_
                  exact WD_done [0] [2] (st' := ⟨[(2, B b61)], [.row .u8 x1 false]⟩) (by kernel_rfl) (by kernel_rfl) (And.intro rfl (by cases hv64; rfl))
              · refine WM_op (φ := 0 ≤ (w64 ((((x1.length : Nat) : Int).tmod ((x36.length : Nat) : Int)) + 1)) ∧ (w64 ((((x1.length : Nat) : Int).tmod ((x36.length : Nat) : Int)) + 1)) ≤ ((x36.length : Nat) : Int)) (v := .one (.e (.sl 1 ((w64 ((((x1.length : Nat) : Int).tmod ((x36.length : Nat) : Int)) + 1)).toNat) (x36.length - (w64 ((((x1.length : Nat) : Int).tmod ((x36.length : Nat) : Int)) + 1)).toNat)))) (H' := [.row .u8 x1 false, .row .ver x36 true]) rfl rfl (by kernel_rfl) hg56 rfl (And.intro rfl (And.intro rfl (trivial))) ?_
                refine WD_all [0] (n := 7) (by kernel_rfl) rfl ?_
                refine WM_op (φ := True) (v := .one (.e (.sl 2 0 (([] : List Ver).length)))) (H' := [.row .u8 x1 false, .row .ver x36 true, .row .ver ([] : List Ver) true]) rfl rfl (by kernel_rfl) trivial rfl (And.intro rfl (And.intro rfl (trivial))) ?_
                refine WD_all [4] (n := 6) (by kernel_rfl) rfl ?_
                refine WM_op (φ := 0 = 0 ∧ ([] : List Ver).length = ([] : List Ver).length ∧ ([] : List Ver).length + ((x36.drop 0).take ((((x1.length : Nat) : Int).tmod ((x36.length : Nat) : Int)).toNat)).length ≤ 1099511627776) (v := .one (.e (.sl 3 0 ((([] : List Ver) ++ ((x36.drop 0).take ((((x1.length : Nat) : Int).tmod ((x36.length : Nat) : Int)).toNat))).length)))) (H' := [.row .u8 x1 false, .row .ver x36 true, .dead, .row .ver (([] : List Ver) ++ ((x36.drop 0).take ((((x1.length : Nat) : Int).tmod ((x36.length : Nat) : Int)).toNat))) true]) rfl rfl (by kernel_rfl) hg55 rfl (And.intro rfl (And.intro rfl (trivial))) ?_
                refine WD_all [9] (n := 5) (by kernel_rfl) rfl ?_
                refine WM_op (φ := 0 = 0 ∧ (([] : List Ver) ++ ((x36.drop 0).take ((((x1.length : Nat) : Int).tmod ((x36.length : Nat) : Int)).toNat))).length = (([] : List Ver) ++ ((x36.drop 0).take ((((x1.length : Nat) : Int).tmod ((x36.length : Nat) : Int)).toNat))).length ∧ (([] : List Ver) ++ ((x36.drop 0).take ((((x1.length : Nat) : Int).tmod ((x36.length : Nat) : Int)).toNat))).length + ((x36.drop ((w64 ((((x1.length : Nat) : Int).tmod ((x36.length : Nat) : Int)) + 1)).toNat)).take (x36.length - (w64 ((((x1.length : Nat) : Int).tmod ((x36.length : Nat) : Int)) + 1)).toNat)).length ≤ 1099511627776) (v := .one (.e (.sl 4 0 (((([] : List Ver) ++ ((x36.drop 0).take ((((x1.length : Nat) : Int).tmod ((x36.length : Nat) : Int)).toNat))) ++ ((x36.drop ((w64 ((((x1.length : Nat) : Int).tmod ((x36.length : Nat) : Int)) + 1)).toNat)).take (x36.length - (w64 ((((x1.length : Nat) : Int).tmod ((x36.length : Nat) : Int)) + 1)).toNat))).length)))) (H' := [.row .u8 x1 false, .row .ver x36 true, .dead, .dead, .row .ver ((([] : List Ver) ++ ((x36.drop 0).take ((((x1.length : Nat) : Int).tmod ((x36.length : Nat) : Int)).toNat))) ++ ((x36.drop ((w64 ((((x1.length : Nat) : Int).tmod ((x36.length : Nat) : Int)) + 1)).toNat)).take (x36.length - (w64 ((((x1.length : Nat) : Int).tmod ((x36.length : Nat) : Int)) + 1)).toNat))) true]) rfl rfl (by kernel_rfl) hg57 rfl (And.intro rfl (And.intro rfl (trivial))) ?_
                refine WD_all [10] (n := 4) (by kernel_rfl) rfl ?_
                refine WM_call [.ro 4] Try.f20 rfl rfl (by kernel_rfl) rfl rfl (by kernel_rfl) (impl_ValidVersions_ok n ((([] : List Ver) ++ ((x36.drop 0).take ((((x1.length : Nat) : Int).tmod ((x36.length : Nat) : Int)).toNat))) ++ ((x36.drop ((w64 ((((x1.length : Nat) : Int).tmod ((x36.length : Nat) : Int)) + 1)).toNat)).take (x36.length - (w64 ((((x1.length : Nat) : Int).tmod ((x36.length : Nat) : Int)) + 1)).toNat))) b58 hc59) (And.intro (And.intro rfl rfl) (trivial)) rfl (And.intro rfl (And.intro rfl (trivial))) ?_
                refine WD_takeK [11] [46] [46] (φ := True) (ls' := #[true, true, true, true, true, true, true, true, true, true, true, true, false, false, false]) (Ts' := [(46, B b58)]) (st' := ⟨[(46, B b58)], [.row .u8 x1 false, .row .ver x36 true, .dead, .dead, .row .ver ((([] : List Ver) ++ ((x36.drop 0).take ((((x1.length : Nat) : Int).tmod ((x36.length : Nat) : Int)).toNat))) ++ ((x36.drop ((w64 ((((x1.length : Nat) : Int).tmod ((x36.length : Nat) : Int)) + 1)).toNat)).take (x36.length - (w64 ((((x1.length : Nat) : Int).tmod ((x36.length : Nat) : Int)) + 1)).toNat))) true]⟩) (n2 := 3) (by kernel_rfl) trivial rfl ?_
                refine WD_known 46 true rfl rfl hb60 ?_
                refine WD_all [12] (n := 2) (by kernel_rfl) rfl ?_
                refine WM_callN [(0, .ver)] (H1 := [.row .u8 x1 false, .row .ver x36 true, .dead, .dead, .row .ver ((([] : List Ver) ++ ((x36.drop 0).take ((((x1.length : Nat) : Int).tmod ((x36.length : Nat) : Int)).toNat))) ++ ((x36.drop ((w64 ((((x1.length : Nat) : Int).tmod ((x36.length : Nat) : Int)) + 1)).toNat)).take (x36.length - (w64 ((((x1.length : Nat) : Int).tmod ((x36.length : Nat) : Int)) + 1)).toNat))) true, .row .ver ([] : List Ver) true]) [.ro 5] Try.f20 rfl rfl (by kernel_rfl) rfl rfl (by kernel_rfl) (impl_ValidVersions_ok n ([] : List Ver) b61 hc62) (And.intro (And.intro rfl rfl) (trivial)) rfl (And.intro rfl (And.intro rfl (trivial))) ?_
                refine WD_takeK [13, 14] [2] [2] (φ := True) (ls' := #[true, true, true, true, true, true, true, true, true, true, true, true, true, true, true]) (Ts' := [(2, B b61)]) (st' := ⟨[(2, B b61)], [.row .u8 x1 false, .row .ver x36 true, .dead, .dead, .row .ver ((([] : List Ver) ++ ((x36.drop 0).take ((((x1.length : Nat) : Int).tmod ((x36.length : Nat) : Int)).toNat))) ++ ((x36.drop ((w64 ((((x1.length : Nat) : Int).tmod ((x36.length : Nat) : Int)) + 1)).toNat)).take (x36.length - (w64 ((((x1.length : Nat) : Int).tmod ((x36.length : Nat) : Int)) + 1)).toNat))) true, .row .ver ([] : List Ver) true]⟩) (n2 := 0) (by kernel_rfl) trivial rfl ?_
                exact WD_done [0] [2] (st' := ⟨[(2, B b61)], [.row .u8 x1 false]⟩) (by kernel_rfl) (by kernel_rfl) (And.intro rfl (by cases hv64; rfl))
            · refine WM_op (φ := 0 ≤ (w64 ((((x1.length : Nat) : Int).tmod ((x36.length : Nat) : Int)) + 1)) ∧ (w64 ((((x1.length : Nat) : Int).tmod ((x36.length : Nat) : Int)) + 1)) ≤ ((x36.length : Nat) : Int)) (v := .one (.e (.sl 1 ((w64 ((((x1.length : Nat) : Int).tmod ((x36.length : Nat) : Int)) + 1)).toNat) (x36.length - (w64 ((((x1.length : Nat) : Int).tmod ((x36.length : Nat) : Int)) + 1)).toNat)))) (H' := [.row .u8 x1 false, .row .ver x36 true]) rfl rfl (by kernel_rfl) hg56 rfl (And.intro rfl (And.intro rfl (trivial))) ?_
              refine WD_all [0, 3] (n := 8) (by kernel_rfl) rfl (And.intro ?_ (?_))
              · refine WM_op (φ := True) (v := .one (.e (.sl 2 0 (([] : List Ver).length)))) (H' := [.row .u8 x1 false, .row .ver x36 true, .row .ver ([] : List Ver) true]) rfl rfl (by kernel_rfl) trivial rfl (And.intro rfl (And.intro rfl (trivial))) ?_
                refine WD_all [3] (n := 7) (by kernel_rfl) rfl ?_
                refine WM_op (φ := 0 ≤ (((x1.length : Nat) : Int).tmod ((x36.length : Nat) : Int)) ∧ (((x1.length : Nat) : Int).tmod ((x36.length : Nat) : Int)) ≤ ((x36.length : Nat) : Int)) (v := .one (.e (.sl 1 0 ((((x1.length : Nat) : Int).tmod ((x36.length : Nat) : Int)).toNat)))) (H' := [.row .u8 x1 false, .row .ver x36 true, .row .ver ([] : List Ver) true]) rfl rfl (by kernel_rfl) hg54 rfl (And.intro rfl (And.intro rfl (trivial))) ?_
                refine WD_all [4] (n := 6) (by kernel_rfl) rfl ?_
                refine WM_op (φ := 0 = 0 ∧ ([] : List Ver).length = ([] : List Ver).length ∧ ([] : List Ver).length + ((x36.drop 0).take ((((x1.length : Nat) : Int).tmod ((x36.length : Nat) : Int)).toNat)).length ≤ 1099511627776) (v := .one (.e (.sl 3 0 ((([] : List Ver) ++ ((x36.drop 0).take ((((x1.length : Nat) : Int).tmod ((x36.length : Nat) : Int)).toNat))).length)))) (H' := [.row .u8 x1 false, .row .ver x36 true, .dead, .row .ver (([] : List Ver) ++ ((x36.drop 0).take ((((x1.length : Nat) : Int).tmod ((x36.length : Nat) : Int)).toNat))) true]) rfl rfl (by kernel_rfl) hg55 rfl (And.intro rfl (And.intro rfl (trivial))) ?_
                refine WD_all [9] (n := 5) (by kernel_rfl) rfl ?_
                refine WM_op (φ := 0 = 0 ∧ (([] : List Ver) ++ ((x36.drop 0).take ((((x1.length : Nat) : Int).tmod ((x36.length : Nat) : Int)).toNat))).length = (([] : List Ver) ++ ((x36.drop 0).take ((((x1.length : Nat) : Int).tmod ((x36.length : Nat) : Int)).toNat))).length ∧ (([] : List Ver) ++ ((x36.drop 0).take ((((x1.length : Nat) : Int).tmod ((x36.length : Nat) : Int)).toNat))).length + ((x36.drop ((w64 ((((x1.length : Nat) : Int).tmod ((x36.length : Nat) : Int)) + 1)).toNat)).take (x36.length - (w64 ((((x1.length : Nat) : Int).tmod ((x36.length : Nat) : Int)) + 1)).toNat)).length ≤ 1099511627776) (v := .one (.e (.sl 4 0 (((([] : List Ver) ++ ((x36.drop 0).take ((((x1.length : Nat) : Int).tmod ((x36.length : Nat) : Int)).toNat))) ++ ((x36.drop ((w64 ((((x1.length : Nat) : Int).tmod ((x36.length : Nat) : Int)) + 1)).toNat)).take (x36.length - (w64 ((((x1.length : Nat) : Int).tmod ((x36.length : Nat) : Int)) + 1)).toNat))).length)))) (H' := [.row .u8 x1 false, .row .ver x36 true, .dead, .dead, .row .ver ((([] : List Ver) ++ ((x36.drop 0).take ((((x1.length : Nat) : Int).tmod ((x36.length : Nat) : Int)).toNat))) ++ ((x36.drop ((w64 ((((x1.length : Nat) : Int).tmod ((x36.length : Nat) : Int)) + 1)).toNat)).take (x36.length - (w64 ((((x1.length : Nat) : Int).tmod ((x36.length : Nat) : Int)) + 1)).toNat))) true]) rfl rfl (by kernel_rfl) hg57 rfl (And.intro rfl (And.intro rfl (trivial))) ?_
                refine WD_all [10] (n := 4) (by kernel_rfl) rfl ?_
                refine WM_call [.ro 4] Try.f20 rfl rfl (by kernel_rfl) rfl rfl (by kernel_rfl) (impl_ValidVersions_ok n ((([] : List Ver) ++ ((x36.drop 0).take ((((x1.length : Nat) : Int).tmod ((x36.length : Nat) : Int)).toNat))) ++ ((x36.drop ((w64 ((((x1.length : Nat) : Int).tmod ((x36.length : Nat) : Int)) + 1)).toNat)).take (x36.length - (w64 ((((x1.length : Nat) : Int).tmod ((x36.length : Nat) : Int)) + 1)).toNat))) b58 hc59) (And.intro (And.intro rfl rfl) (trivial)) rfl (And.intro rfl (And.intro rfl (trivial))) ?_
                refine WD_takeK [11] [46] [46] (φ := True) (ls' := #[true, true, true, true, true, true, true, true, true, true, true, true, false, false, false]) (Ts' := [(46, B b58)]) (st' := ⟨[(46, B b58)], [.row .u8 x1 false, .row .ver x36 true, .dead, .dead, .row .ver ((([] : List Ver) ++ ((x36.drop 0).take ((((x1.length : Nat) : Int).tmod ((x36.length : Nat) : Int)).toNat))) ++ ((x36.drop ((w64 ((((x1.length : Nat) : Int).tmod ((x36.length : Nat) : Int)) + 1)).toNat)).take (x36.length - (w64 ((((x1.length : Nat) : Int).tmod ((x36.length : Nat) : Int)) + 1)).toNat))) true]⟩) (n2 := 3) (by kernel_rfl) trivial rfl ?_
                refine WD_known 46 true rfl rfl hb60 ?_
                refine WD_all [12] (n := 2) (by kernel_rfl) rfl ?_
                refine WM_callN [(0, .ver)] (H1 := [.row .u8 x1 false, .row .ver x36 true, .dead, .dead, .row .ver ((([] : List Ver) ++ ((x36.drop 0).take ((((x1.length : Nat) : Int).tmod ((x36.length : Nat) : Int)).toNat))) ++ ((x36.drop ((w64 ((((x1.length : Nat) : Int).tmod ((x36.length : Nat) : Int)) + 1)).toNat)).take (x36.length - (w64 ((((x1.length : Nat) : Int).tmod ((x36.length : Nat) : Int)) + 1)).toNat))) true, .row .ver ([] : List Ver) true]) [.ro 5] Try.f20 rfl rfl (by kernel_rfl) rfl rfl (by kernel_rfl) (impl_ValidVersions_ok n ([] : List Ver) b61 hc62) (And.intro (And.intro rfl rfl) (trivial)) rfl (And.intro rfl (And.intro rfl (trivial))) ?_
                refine WD_takeK [13, 14] [2] [2] (φ := True) (ls' := #[true, true, true, true, true, true, true, true, true, true, true, true, true, true, true]) (Ts' := [(2, B b61)]) (st' := ⟨[(2, B b61)], [.row .u8 x1 false, .row .ver x36 true, .dead, .dead, .row .ver ((([] : List Ver) ++ ((x36.drop 0).take ((((x1.length : Nat) : Int).tmod ((x36.length : Nat) : Int)).toNat))) ++ ((x36.drop ((w64 ((((x1.length : Nat) : Int).tmod ((x36.length : Nat) : Int)) + 1)).toNat)).take (x36.length - (w64 ((((x1.length : Nat) : Int).tmod ((x36.length : Nat) : Int)) + 1)).toNat))) true, .row .ver ([] : List Ver) true]⟩) (n2 := 0) (by kernel_rfl) trivial rfl ?_
                exact WD_done [0] [2] (st' := ⟨[(2, B b61)], [.row .u8 x1 false]⟩) (by kernel_rfl) (by kernel_rfl) (And.intro rfl (by cases hv64; rfl))
              · refine WM_op (φ := 0 ≤ (((x1.length : Nat) : Int).tmod ((x36.length : Nat) : Int)) ∧ (((x1.length : Nat) : Int).tmod ((x36.length : Nat) : Int)) ≤ ((x36.length : Nat) : Int)) (v := .one (.e (.sl 1 0 ((((x1.length : Nat) : Int).tmod ((x36.length : Nat) : Int)).toNat)))) (H' := [.row .u8 x1 false, .row .ver x36 true]) rfl rfl (by kernel_rfl) hg54 rfl (And.intro rfl (And.intro rfl (trivial))) ?_
                refine WD_all [0] (n := 7) (by kernel_rfl) rfl ?_
                refine WM_op (φ := True) (v := .one (.e (.sl 2 0 (([] : List Ver).length)))) (H' := [.row .u8 x1 false, .row .ver x36 true, .row .ver ([] : List Ver) true]) rfl rfl (by kernel_rfl) trivial rfl (And.intro rfl (And.intro rfl (trivial))) ?_
                refine WD_all [4] (n := 6) (by kernel_rfl) rfl ?_
                refine WM_op (φ := 0 = 0 ∧ ([] : List Ver).length = ([] : List Ver).length ∧ ([] : List Ver).length + ((x36.drop 0).take ((((x1.length : Nat) : Int).tmod ((x36.length : Nat) : Int)).toNat)).length ≤ 1099511627776) (v := .one (.e (.sl 3 0 ((([] : List Ver) ++ ((x36.drop 0).take ((((x1.length : Nat) : Int).tmod ((x36.length : Nat) : Int)).toNat))).length)))) (H' := [.row .u8 x1 false, .row .ver x36 true, .dead, .row .ver (([] : List Ver) ++ ((x36.drop 0).take ((((x1.length : Nat) : Int).tmod ((x36.length : Nat) : Int)).toNat))) true]) rfl rfl (by kernel_rfl) hg55 rfl (And.intro rfl (And.intro rfl (trivial))) ?_
                refine WD_all [9] (n := 5) (by kernel_rfl) rfl ?_
                refine WM_op (φ := 0 = 0 ∧ (([] : List Ver) ++ ((x36.drop 0).take ((((x1.length : Nat) : Int).tmod ((x36.length : Nat) : Int)).toNat))).length = (([] : List Ver) ++ ((x36.drop 0).take ((((x1.length : Nat) : Int).tmod ((x36.length : Nat) : Int)).toNat))).length ∧ (([] : List Ver) ++ ((x36.drop 0).take ((((x1.length : Nat) : Int).tmod ((x36.length : Nat) : Int)).toNat))).length + ((x36.drop ((w64 ((((x1.length : Nat) : Int).tmod ((x36.length : Nat) : Int)) + 1)).toNat)).take (x36.length - (w64 ((((x1.length : Nat) : Int).tmod ((x36.length : Nat) : Int)) + 1)).toNat)).length ≤ 1099511627776) (v := .one (.e (.sl 4 0 (((([] : List Ver) ++ ((x36.drop 0).take ((((x1.length : Nat) : Int).tmod ((x36.length : Nat) : Int)).toNat))) ++ ((x36.drop ((w64 ((((x1.length : Nat) : Int).tmod ((x36.length : Nat) : Int)) + 1)).toNat)).take (x36.length - (w64 ((((x1.length : Nat) : Int).tmod ((x36.length : Nat) : Int)) + 1)).toNat))).length)))) (H' := [.row .u8 x1 false, .row .ver x36 true, .dead, .dead, .row .ver ((([] : List Ver) ++ ((x36.drop 0).take ((((x1.length : Nat) : Int).tmod ((x36.length : Nat) : Int)).toNat))) ++ ((x36.drop ((w64 ((((x1.length : Nat) : Int).tmod ((x36.length : Nat) : Int)) + 1)).toNat)).take (x36.length - (w64 ((((x1.length : Nat) : Int).tmod ((x36.length : Nat) : Int)) + 1)).toNat))) true]) rfl rfl (by kernel_rfl) hg57 rfl (And.intro rfl (And.intro rfl (trivial))) ?_
                refine WD_all [10] (n := 4) (by kernel_rfl) rfl ?_
                refine WM_call [.ro 4] Try.f20 rfl rfl (by kernel_rfl) rfl rfl (by kernel_rfl) (impl_ValidVersions_ok n ((([] : List Ver) ++ ((x36.drop 0).take ((((x1.length : Nat) : Int).tmod ((x36.length : Nat) : Int)).toNat))) ++ ((x36.drop ((w64 ((((x1.length : Nat) : Int).tmod ((x36.length : Nat) : Int)) + 1)).toNat)).take (x36.length - (w64 ((((x1.length : Nat) : Int).tmod ((x36.length : Nat) : Int)) + 1)).toNat))) b58 hc59) (And.intro (And.intro rfl rfl) (trivial)) rfl (And.intro rfl (And.intro rfl (trivial))) ?_
                refine WD_takeK [11] [46] [46] (φ := True) (ls' := #[true, true, true, true, true, true, true, true, true, true, true, true, false, false, false]) (Ts' := [(46, B b58)]) (st' := ⟨[(46, B b58)], [.row .u8 x1 false, .row .ver x36 true, .dead, .dead, .row .ver ((([] : List Ver) ++ ((x36.drop 0).take ((((x1.length : Nat) : Int).tmod ((x36.length : Nat) : Int)).toNat))) ++ ((x36.drop ((w64 ((((x1.length : Nat) : Int).tmod ((x36.length : Nat) : Int)) + 1)).toNat)).take (x36.length - (w64 ((((x1.length : Nat) : Int).tmod ((x36.length : Nat) : Int)) + 1)).toNat))) true]⟩) (n2 := 3) (by kernel_rfl) trivial rfl ?_
                refine WD_known 46 true rfl rfl hb60 ?_
                refine WD_all [12] (n := 2) (by kernel_rfl) rfl ?_
                refine WM_callN [(0, .ver)] (H1 := [.row .u8 x1 false, .row .ver x36 true, .dead, .dead, .row .ver ((([] : List Ver) ++ ((x36.drop 0).take ((((x1.length : Nat) : Int).tmod ((x36.length : Nat) : Int)).toNat))) ++ ((x36.drop ((w64 ((((x1.length : Nat) : Int).tmod ((x36.length : Nat) : Int)) + 1)).toNat)).take (x36.length - (w64 ((((x1.length : Nat) : Int).tmod ((x36.length : Nat) : Int)) + 1)).toNat))) true, .row .ver ([] : List Ver) true]) [.ro 5] Try.f20 rfl rfl (by kernel_rfl) rfl rfl (by kernel_rfl) (impl_ValidVersions_ok n ([] : List Ver) b61 hc62) (And.intro (And.intro rfl rfl) (trivial)) rfl (And.intro rfl (And.intro rfl (trivial))) ?_
                refine WD_takeK [13, 14] [2] [2] (φ := True) (ls' := #[true, true, true, true, true, true, true, true, true, true, true, true, true, true, true]) (Ts' := [(2, B b61)]) (st' := ⟨[(2, B b61)], [.row .u8 x1 false, .row .ver x36 true, .dead, .dead, .row .ver ((([] : List Ver) ++ ((x36.drop 0).take ((((x1.length : Nat) : Int).tmod ((x36.length : Nat) : Int)).toNat))) ++ ((x36.drop ((w64 ((((x1.length : Nat) : Int).tmod ((x36.length : Nat) : Int)) + 1)).toNat)).take (x36.length - (w64 ((((x1.length : Nat) : Int).tmod ((x36.length : Nat) : Int)) + 1)).toNat))) true, .row .ver ([] : List Ver) true]⟩) (n2 := 0) (by kernel_rfl) trivial rfl ?_
                exact WD_done [0] [2] (st' := ⟨[(2, B b61)], [.row .u8 x1 false]⟩) (by kernel_rfl) (by kernel_rfl) (And.intro rfl (by cases hv64; rfl))
          · refine W_draw [] false (by kernel_rfl) (by kernel_rfl) ?_
            refine WD_takeK [1, 2, 5, 6, 7] [36, 37, 40, 42] [36, 37, 40, 42] (φ := (True ∧ True ∧ True)) (ls' := #[false, true, true, false, false, true, true, true, false, false, false, false, false, false, false]) (Ts' := [(36, .one (.e (.sl 1 0 x36.length))), (37, I (((x1.length : Nat) : Int).tmod ((x36.length : Nat) : Int))), (40, .one (.e (.sl 1 0 x36.length))), (42, I (w64 ((((x1.length : Nat) : Int).tmod ((x36.length : Nat) : Int)) + 1)))]) (st' := ⟨[(36, .one (.e (.sl 1 0 x36.length))), (37, I (((x1.length : Nat) : Int).tmod ((x36.length : Nat) : Int))), (40, .one (.e (.sl 1 0 x36.length))), (42, I (w64 ((((x1.length : Nat) : Int).tmod ((x36.length : Nat) : Int)) + 1)))], [.row .u8 x1 false, .row .ver x36 true]⟩) (n2 := 10) (by kernel_rfl) ⟨trivial, trivial, trivial⟩ rfl ?_
            refine WD_all [0, 3, 8] (n := 9) (by kernel_rfl) rfl (And.intro ?_ (And.intro ?_ (?_)))
            · refine WM_op (φ := True) (v := .one (.e (.sl 2 0 (([] : List Ver).length)))) (H' := [.row .u8 x1 false, .row .ver x36 true, .row .ver ([] : List Ver) true]) rfl rfl (by kernel_rfl) trivial rfl (And.intro rfl (And.intro rfl (trivial))) ?_
              refine WD_all [3, 8] (n := 8) (by kernel_rfl) rfl (And.intro ?_ (?_))
              · refine WM_op (φ := 0 ≤ (((x1.length : Nat) : Int).tmod ((x36.length : Nat) : Int)) ∧ (((x1.length : Nat) : Int).tmod ((x36.length : Nat) : Int)) ≤ ((x36.length : Nat) : Int)) (v := .one (.e (.sl 1 0 ((((x1.length : Nat) : Int).tmod ((x36.length : Nat) : Int)).toNat)))) (H' := [.row .u8 x1 false, .row .ver x36 true, .row .ver ([] : List Ver) true]) rfl rfl (by kernel_rfl) hg54 rfl (And.intro rfl (And.intro rfl (trivial))) ?_
                refine WD_all [4, 8] (n := 7) (by kernel_rfl) rfl (And.intro ?_ (?_))
                · refine WM_op (φ := 0 = 0 ∧ ([] : List Ver).length = ([] : List Ver).length ∧ ([] : List Ver).length + ((x36.drop 0).take ((((x1.length : Nat) : Int).tmod ((x36.length : Nat) : Int)).toNat)).length ≤ 1099511627776) (v := .one (.e (.sl 3 0 ((([] : List Ver) ++ ((x36.drop 0).take ((((x1.length : Nat) : Int).tmod ((x36.length : Nat) : Int)).toNat))).length)))) (H' := [.row .u8 x1 false, .row .ver x36 true, .dead, .row .ver (([] : List Ver) ++ ((x36.drop 0).take ((((x1.length : Nat) : Int).tmod ((x36.length : Nat) : Int)).toNat))) true]) rfl rfl (by kernel_rfl) hg55 rfl (And.intro rfl (And.intro rfl (trivial))) ?_
                  refine WD_all [8] (n := 6) (by kernel_rfl) rfl ?_
                  refine WM_op (φ := 0 ≤ (w64 ((((x1.length : Nat) : Int).tmod ((x36.length : Nat) : Int)) + 1)) ∧ (w64 ((((x1.length : Nat) : Int).tmod ((x36.length : Nat) : Int)) + 1)) ≤ ((x36.length : Nat) : Int)) (v := .one (.e (.sl 1 ((w64 ((((x1.length : Nat) : Int).tmod ((x36.length : Nat) : Int)) + 1)).toNat) (x36.length - (w64 ((((x1.length : Nat) : Int).tmod ((x36.length : Nat) : Int)) + 1)).toNat)))) (H' := [.row .u8 x1 false, .row .ver x36 true, .dead, .row .ver (([] : List Ver) ++ ((x36.drop 0).take ((((x1.length : Nat) : Int).tmod ((x36.length : Nat) : Int)).toNat))) true]) rfl rfl (by kernel_rfl) hg56 rfl (And.intro rfl (And.intro rfl (trivial))) ?_
                  refine WD_all [9] (n := 5) (by kernel_rfl) rfl ?_
                  refine WM_op (φ := 0 = 0 ∧ (([] : List Ver) ++ ((x36.drop 0).take ((((x1.length : Nat) : Int).tmod ((x36.length : Nat) : Int)).toNat))).length = (([] : List Ver) ++ ((x36.drop 0).take ((((x1.length : Nat) : Int).tmod ((x36.length : Nat) : Int)).toNat))).length ∧ (([] : List Ver) ++ ((x36.drop 0).take ((((x1.length : Nat) : Int).tmod ((x36.length : Nat) : Int)).toNat))).length + ((x36.drop ((w64 ((((x1.length : Nat) : Int).tmod ((x36.length : Nat) : Int)) + 1)).toNat)).take (x36.length - (w64 ((((x1.length : Nat) : Int).tmod ((x36.length : Nat) : Int)) + 1)).toNat)).length ≤ 1099511627776) (v := .one (.e (.sl 4 0 (((([] : List Ver) ++ ((x36.drop 0).take ((((x1.length : Nat) : Int).tmod ((x36.length : Nat) : Int)).toNat))) ++ ((x36.drop ((w64 ((((x1.length : Nat) : Int).tmod ((x36.length : Nat) : Int)) + 1)).toNat)).take (x36.length - (w64 ((((x1.length : Nat) : Int).tmod ((x36.length : Nat) : Int)) + 1)).toNat))).length)))) (H' := [.row .u8 x1 false, .row .ver x36 true, .dead, .dead, .row .ver ((([] : List Ver) ++ ((x36.drop 0).take ((((x1.length : Nat) : Int).tmod ((x36.length : Nat) : Int)).toNat))) ++ ((x36.drop ((w64 ((((x1.length : Nat) : Int).tmod ((x36.length : Nat) : Int)) + 1)).toNat)).take (x36.length - (w64 ((((x1.length : Nat) : Int).tmod ((x36.length : Nat) : Int)) + 1)).toNat))) true]) rfl rfl (by kernel_rfl) hg57 rfl (And.intro rfl (And.intro rfl (trivial))) ?_
                  refine WD_all [10] (n := 4) (by kernel_rfl) rfl ?_
                  refine WM_call [.ro 4] Try.f20 rfl rfl (by kernel_rfl) rfl rfl (by kernel_rfl) (impl_ValidVersions_ok n ((([] : List Ver) ++ ((x36.drop 0).take ((((x1.length : Nat) : Int).tmod ((x36.length : Nat) : Int)).toNat))) ++ ((x36.drop ((w64 ((((x1.length : Nat) : Int).tmod ((x36.length : Nat) : Int)) + 1)).toNat)).take (x36.length - (w64 ((((x1.length : Nat) : Int).tmod ((x36.length : Nat) : Int)) + 1)).toNat))) b58 hc59) (And.intro (And.intro rfl rfl) (trivial)) rfl (And.intro rfl (And.intro rfl (trivial))) ?_
                  refine WD_takeK [11] [46] [46] (φ := True) (ls' := #[true, true, true, true, true, true, true, true, true, true, true, true, false, false, false]) (Ts' := [(46, B b58)]) (st' := ⟨[(46, B b58)], [.row .u8 x1 false, .row .ver x36 true, .dead, .dead, .row .ver ((([] : List Ver) ++ ((x36.drop 0).take ((((x1.length : Nat) : Int).tmod ((x36.length : Nat) : Int)).toNat))) ++ ((x36.drop ((w64 ((((x1.length : Nat) : Int).tmod ((x36.length : Nat) : Int)) + 1)).toNat)).take (x36.length - (w64 ((((x1.length : Nat) : Int).tmod ((x36.length : Nat) : Int)) + 1)).toNat))) true]⟩) (n2 := 3) (by kernel_rfl) trivial rfl ?_
                  refine WD_known 46 false rfl rfl hb60 ?_
                  refine WD_takeK [12, 13, 14] [2] [2] (φ := True) (ls' := #[true, true, true, true, true, true, true, true, true, true, true, true, true, true, true]) (Ts' := [(2, B false)]) (st' := ⟨[(2, B false)], [.row .u8 x1 false, .row .ver x36 true, .dead, .dead, .row .ver ((([] : List Ver) ++ ((x36.drop 0).take ((((x1.length : Nat) : Int).tmod ((x36.length : Nat) : Int)).toNat))) ++ ((x36.drop ((w64 ((((x1.length : Nat) : Int).tmod ((x36.length : Nat) : Int)) + 1)).toNat)).take (x36.length - (w64 ((((x1.length : Nat) : Int).tmod ((x36.length : Nat) : Int)) + 1)).toNat))) true]⟩) (n2 := 0) (by kernel_rfl) trivial rfl ?_
                  exact WD_done [0] [2] (st' := ⟨[(2, B false)], [.row .u8 x1 false]⟩) (by kernel_rfl) (by kernel_rfl) (And.intro rfl (by cases hv64; rfl))
                · refine WM_op (φ := 0 ≤ (w64 ((((x1.length : Nat) : Int).tmod ((x36.length : Nat) : Int)) + 1)) ∧ (w64 ((((x1.length : Nat) : Int).tmod ((x36.length : Nat) : Int)) + 1)) ≤ ((x36.length : Nat) : Int)) (v := .one (.e (.sl 1 ((w64 ((((x1.length : Nat) : Int).tmod ((x36.length : Nat) : Int)) + 1)).toNat) (x36.length - (w64 ((((x1.length : Nat) : Int).tmod ((x36.length : Nat) : Int)) + 1)).toNat)))) (H' := [.row .u8 x1 false, .row .ver x36 true, .row .ver ([] : List Ver) true]) rfl rfl (by kernel_rfl) hg56 rfl (And.intro rfl (And.intro rfl (trivial))) ?_
                  refine WD_all [4] (n := 6) (by kernel_rfl) rfl ?_
                  refine WM_op (φ := 0 = 0 ∧ ([] : List Ver).length = ([] : List Ver).length ∧ ([] : List Ver).length + ((x36.drop 0).take ((((x1.length : Nat) : Int).tmod ((x36.length : Nat) : Int)).toNat)).length ≤ 1099511627776) (v := .one (.e (.sl 3 0 ((([] : List Ver) ++ ((x36.drop 0).take ((((x1.length : Nat) : Int).tmod ((x36.length : Nat) : Int)).toNat))).length)))) (H' := [.row .u8 x1 false, .row .ver x36 true, .dead, .row .ver (([] : List Ver) ++ ((x36.drop 0).take ((((x1.length : Nat) : Int).tmod ((x36.length : Nat) : Int)).toNat))) true]) rfl rfl (by kernel_rfl) hg55 rfl (And.intro rfl (And.intro rfl (trivial))) ?_
                  refine WD_all [9] (n := 5) (by kernel_rfl) rfl ?_
                  refine WM_op (φ := 0 = 0 ∧ (([] : List Ver) ++ ((x36.drop 0).take ((((x1.length : Nat) : Int).tmod ((x36.length : Nat) : Int)).toNat))).length = (([] : List Ver) ++ ((x36.drop 0).take ((((x1.length : Nat) : Int).tmod ((x36.length : Nat) : Int)).toNat))).length ∧ (([] : List Ver) ++ ((x36.drop 0).take ((((x1.length : Nat) : Int).tmod ((x36.length : Nat) : Int)).toNat))).length + ((x36.drop ((w64 ((((x1.length : Nat) : Int).tmod ((x36.length : Nat) : Int)) + 1)).toNat)).take (x36.length - (w64 ((((x1.length : Nat) : Int).tmod ((x36.length : Nat) : Int)) + 1)).toNat)).length ≤ 1099511627776) (v := .one (.e (.sl 4 0 (((([] : List Ver) ++ ((x36.drop 0).take ((((x1.length : Nat) : Int).tmod ((x36.length : Nat) : Int)).toNat))) ++ ((x36.drop ((w64 ((((x1.length : Nat) : Int).tmod ((x36.length : Nat) : Int)) + 1)).toNat)).take (x36.length - (w64 ((((x1.length : Nat) : Int).tmod ((x36.length : Nat) : Int)) + 1)).toNat))).length)))) (H' := [.row .u8 x1 false, .row .ver x36 true, .dead, .dead, .row .ver ((([] : List Ver) ++ ((x36.drop 0).take ((((x1.length : Nat) : Int).tmod ((x36.length : Nat) : Int)).toNat))) ++ ((x36.drop ((w64 ((((x1.length : Nat) : Int).tmod ((x36.length : Nat) : Int)) + 1)).toNat)).take (x36.length - (w64 ((((x1.length : Nat) : Int).tmod ((x36.length : Nat) : Int)) + 1)).toNat))) true]) rfl rfl (by kernel_rfl) hg57 rfl (And.intro rfl (And.intro rfl (trivial))) ?_
                  refine WD_all [10] (n := 4) (by kernel_rfl) rfl ?_
                  refine WM_call [.ro 4] Try.f20 rfl rfl (by kernel_rfl) rfl rfl (by kernel_rfl) (impl_ValidVersions_ok n ((([] : List Ver) ++ ((x36.drop 0).take ((((x1.length : Nat) : Int).tmod ((x36.length : Nat) : Int)).toNat))) ++ ((x36.drop ((w64 ((((x1.length : Nat) : Int).tmod ((x36.length : Nat) : Int)) + 1)).toNat)).take (x36.length - (w64 ((((x1.length : Nat) : Int).tmod ((x36.length : Nat) : Int)) + 1)).toNat))) b58 hc59) (And.intro (And.intro rfl rfl) (trivial)) rfl (And.intro rfl (And.intro rfl (trivial))) ?_
                  refine WD_takeK [11] [46] [46] (φ := True) (ls' := #[true, true, true, true, true, true, true, true, true, true, true, true, false, false, false]) (Ts' := [(46, B b58)]) (st' := ⟨[(46, B b58)], [.row .u8 x1 false, .row .ver x36 true, .dead, .dead, .row .ver ((([] : List Ver) ++ ((x36.drop 0).take ((((x1.length : Nat) : Int).tmod ((x36.length : Nat) : Int)).toNat))) ++ ((x36.drop ((w64 ((((x1.length : Nat) : Int).tmod ((x36.length : Nat) : Int)) + 1)).toNat)).take (x36.length - (w64 ((((x1.length : Nat) : Int).tmod ((x36.length : Nat) : Int)) + 1)).toNat))) true]⟩) (n2 := 3) (by kernel_rfl) trivial rfl ?_
                  refine WD_known 46 false rfl rfl hb60 ?_
                  refine WD_takeK [12, 13, 14] [2] [2] (φ := True) (ls' := #[true, true, true, true, true, true, true, true, true, true, true, true, true, true, true]) (Ts' := [(2, B false)]) (st' := ⟨[(2, B false)], [.row .u8 x1 false, .row .ver x36 true, .dead, .dead, .row .ver ((([] : List Ver) ++ ((x36.drop 0).take ((((x1.length : Nat) : Int).tmod ((x36.length : Nat) : Int)).toNat))) ++ ((x36.drop ((w64 ((((x1.length : Nat) : Int).tmod ((x36.length : Nat) : Int)) + 1)).toNat)).take (x36.length - (w64 ((((x1.length : Nat) : Int).tmod ((x36.length : Nat) : Int)) + 1)).toNat))) true]⟩) (n2 := 0) (by kernel_rfl) trivial rfl ?_
                  exact WD_done [0] [2] (st' := ⟨[(2, B false)], [.row .u8 x1 false]⟩) (by kernel_rfl) (by kernel_rfl) (And.intro rfl (by cases hv64; rfl))
              · refine WM_op (φ := 0 ≤ (w64 ((((x1.length : Nat) : Int).tmod ((x36.length : Nat) : Int)) + 1)) ∧ (w64 ((((x1.length : Nat) : Int).tmod ((x36.length : Nat) : Int)) + 1)) ≤ ((x36.length : Nat) : Int)) (v := .one (.e (.sl 1 ((w64 ((((x1.length : Nat) : Int).tmod ((x36.length : Nat) : Int)) + 1)).toNat) (x36.length - (w64 ((((x1.length : Nat) : Int).tmod ((x36.length : Nat) : Int)) + 1)).toNat)))) (H' := [.row .u8 x1 false, .row .ver x36 true, .row .ver ([] : List Ver) true]) rfl rfl (by kernel_rfl) hg56 rfl (And.intro rfl (And.intro rfl (trivial))) ?_
                refine WD_all [3] (n := 7) (by kernel_rfl) rfl ?_
                refine WM_op (φ := 0 ≤ (((x1.length : Nat) : Int).tmod ((x36.length : Nat) : Int)) ∧ (((x1.length : Nat) : Int).tmod ((x36.length : Nat) : Int)) ≤ ((x36.length : Nat) : Int)) (v := .one (.e (.sl 1 0 ((((x1.length : Nat) : Int).tmod ((x36.length : Nat) : Int)).toNat)))) (H' := [.row .u8 x1 false, .row .ver x36 true, .row .ver ([] : List Ver) true]) rfl rfl (by kernel_rfl) hg54 rfl (And.intro rfl (And.intro rfl (trivial))) ?_
                refine WD_all [4] (n := 6) (by kernel_rfl) rfl ?_
                refine WM_op (φ := 0 = 0 ∧ ([] : List Ver).length = ([] : List Ver).length ∧ ([] : List Ver).length + ((x36.drop 0).take ((((x1.length : Nat) : Int).tmod ((x36.length : Nat) : Int)).toNat)).length ≤ 1099511627776) (v := .one (.e (.sl 3 0 ((([] : List Ver) ++ ((x36.drop 0).take ((((x1.length : Nat) : Int).tmod ((x36.length : Nat) : Int)).toNat))).length)))) (H' := [.row .u8 x1 false, .row .ver x36 true, .dead, .row .ver (([] : List Ver) ++ ((x36.drop 0).take ((((x1.length : Nat) : Int).tmod ((x36.length : Nat) : Int)).toNat))) true]) rfl rfl (by kernel_rfl) hg55 rfl (And.intro rfl (And.intro rfl (trivial))) ?_
                refine WD_all [9] (n := 5) (by kernel_rfl) rfl ?_
                refine WM_op (φ := 0 = 0 ∧ (([] : List Ver) ++ ((x36.drop 0).take ((((x1.length : Nat) : Int).tmod ((x36.length : Nat) : Int)).toNat))).length = (([] : List Ver) ++ ((x36.drop 0).take ((((x1.length : Nat) : Int).tmod ((x36.length : Nat) : Int)).toNat))).length ∧ (([] : List Ver) ++ ((x36.drop 0).take ((((x1.length : Nat) : Int).tmod ((x36.length : Nat) : Int)).toNat))).length + ((x36.drop ((w64 ((((x1.length : Nat) : Int).tmod ((x36.length : Nat) : Int)) + 1)).toNat)).take (x36.length - (w64 ((((x1.length : Nat) : Int).tmod ((x36.length : Nat) : Int)) + 1)).toNat)).length ≤ 1099511627776) (v := .one (.e (.sl 4 0 (((([] : List Ver) ++ ((x36.drop 0).take ((((x1.length : Nat) : Int).tmod ((x36.length : Nat) : Int)).toNat))) ++ ((x36.drop ((w64 ((((x1.length : Nat) : Int).tmod ((x36.length : Nat) : Int)) + 1)).toNat)).take (x36.length - (w64 ((((x1.length : Nat) : Int).tmod ((x36.length : Nat) : Int)) + 1)).toNat))).length)))) (H' := [.row .u8 x1 false, .row .ver x36 true, .dead, .dead, .row .ver ((([] : List Ver) ++ ((x36.drop 0).take ((((x1.length : Nat) : Int).tmod ((x36.length : Nat) : Int)).toNat))) ++ ((x36.drop ((w64 ((((x1.length : Nat) : Int).tmod ((x36.length : Nat) : Int)) + 1)).toNat)).take (x36.length - (w64 ((((x1.length : Nat) : Int).tmod ((x36.length : Nat) : Int)) + 1)).toNat))) true]) rfl rfl (by kernel_rfl) hg57 rfl (And.intro rfl (And.intro rfl (trivial))) ?_
                refine WD_all [10] (n := 4) (by kernel_rfl) rfl ?_
                refine WM_call [.ro 4] Try.f20 rfl rfl (by kernel_rfl) rfl rfl (by kernel_rfl) (impl_ValidVersions_ok n ((([] : List Ver) ++ ((x36.drop 0).take ((((x1.length : Nat) : Int).tmod ((x36.length : Nat) : Int)).toNat))) ++ ((x36.drop ((w64 ((((x1.length : Nat) : Int).tmod ((x36.length : Nat) : Int)) + 1)).toNat)).take (x36.length - (w64 ((((x1.length : Nat) : Int).tmod ((x36.length : Nat) : Int)) + 1)).toNat))) b58 hc59) (And.intro (And.intro rfl rfl) (trivial)) rfl (And.intro rfl (And.intro rfl (trivial))) ?_
                refine WD_takeK [11] [46] [46] (φ := True) (ls' := #[true, true, true, true, true, true, true, true, true, true, true, true, false, false, false]) (Ts' := [(46, B b58)]) (st' := ⟨[(46, B b58)], [.row .u8 x1 false, .row .ver x36 true, .dead, .dead, .row .ver ((([] : List Ver) ++ ((x36.drop 0).take ((((x1.length : Nat) : Int).tmod ((x36.length : Nat) : Int)).toNat))) ++ ((x36.drop ((w64 ((((x1.length : Nat) : Int).tmod ((x36.length : Nat) : Int)) + 1)).toNat)).take (x36.length - (w64 ((((x1.length : Nat) : Int).tmod ((x36.length : Nat) : Int)) + 1)).toNat))) true]⟩) (n2 := 3) (by kernel_rfl) trivial rfl ?_
                refine WD_known 46 false rfl rfl hb60 ?_
                refine WD_takeK [12, 13, 14] [2] [2] (φ := True) (ls' := #[true, true, true, true, true, true, true, true, true, true, true, true, true, true, true]) (Ts' := [(2, B false)]) (st' := ⟨[(2, B false)], [.row .u8 x1 false, .row .ver x36 true, .dead, .dead, .row .ver ((([] : List Ver) ++ ((x36.drop 0).take ((((x1.length : Nat) : Int).tmod ((x36.length : Nat) : Int)).toNat))) ++ ((x36.drop ((w64 ((((x1.length : Nat) : Int).tmod ((x36.length : Nat) : Int)) + 1)).toNat)).take (x36.length - (w64 ((((x1.length : Nat) : Int).tmod ((x36.length : Nat) : Int)) + 1)).toNat))) true]⟩) (n2 := 0) (by kernel_rfl) trivial rfl ?_
                exact WD_done [0] [2] (st' := ⟨[(2, B false)], [.row .u8 x1 false]⟩) (by kernel_rfl) (by kernel_rfl) (And.intro rfl (by cases hv64; rfl))
            · refine WM_op (φ := 0 ≤ (((x1.length : Nat) : Int).tmod ((x36.length : Nat) : Int)) ∧ (((x1.length : Nat) : Int).tmod ((x36.length : Nat) : Int)) ≤ ((x36.length : Nat) : Int)) (v := .one (.e (.sl 1 0 ((((x1.length : Nat) : Int).tmod ((x36.length : Nat) : Int)).toNat)))) (H' := [.row .u8 x1 false, .row .ver x36 true]) rfl rfl (by kernel_rfl) hg54 rfl (And.intro rfl (And.intro rfl (trivial))) ?_
              refine WD_all [0, 8] (n := 8) (by kernel_rfl) rfl (And.intro ?_ (?_))
              · refine WM_op (φ := True) (v := .one (.e (.sl 2 0 (([] : List Ver).length)))) (H' := [.row .u8 x1 false, .row .ver x36 true, .row .ver ([] : List Ver) true]) rfl rfl (by kernel_rfl) trivial rfl (And.intro rfl (And.intro rfl (trivial))) ?_
                refine WD_all [4, 8] (n := 7) (by kernel_rfl) rfl (And.intro ?_ (?_))
                · refine WM_op (φ := 0 = 0 ∧ ([] : List Ver).length = ([] : List Ver).length ∧ ([] : List Ver).length + ((x36.drop 0).take ((((x1.length : Nat) : Int).tmod ((x36.length : Nat) : Int)).toNat)).length ≤ 1099511627776) (v := .one (.e (.sl 3 0 ((([] : List Ver) ++ ((x36.drop 0).take ((((x1.length : Nat) : Int).tmod ((x36.length : Nat) : Int)).toNat))).length)))) (H' := [.row .u8 x1 false, .row .ver x36 true, .dead, .row .ver (([] : List Ver) ++ ((x36.drop 0).take ((((x1.length : Nat) : Int).tmod ((x36.length : Nat) : Int)).toNat))) true]) rfl rfl (by kernel_rfl) hg55 rfl (And.intro rfl (And.intro rfl (trivial))) ?_
                  refine WD_all [8] (n := 6) (by kernel_rfl) rfl ?_
                  refine WM_op (φ := 0 ≤ (w64 ((((x1.length : Nat) : Int).tmod ((x36.length : Nat) : Int)) + 1)) ∧ (w64 ((((x1.length : Nat) : Int).tmod ((x36.length : Nat) : Int)) + 1)) ≤ ((x36.length : Nat) : Int)) (v := .one (.e (.sl 1 ((w64 ((((x1.length : Nat) : Int).tmod ((x36.length : Nat) : Int)) + 1)).toNat) (x36.length - (w64 ((((x1.length : Nat) : Int).tmod ((x36.length : Nat) : Int)) + 1)).toNat)))) (H' := [.row .u8 x1 false, .row .ver x36 true, .dead, .row .ver (([] : List Ver) ++ ((x36.drop 0).take ((((x1.length : Nat) : Int).tmod ((x36.length : Nat) : Int)).toNat))) true]) rfl rfl (by kernel_rfl) hg56 rfl (And.intro rfl (And.intro rfl (trivial))) ?_
                  refine WD_all [9] (n := 5) (by kernel_rfl) rfl ?_
                  refine WM_op (φ := 0 = 0 ∧ (([] : List Ver) ++ ((x36.drop 0).take ((((x1.length : Nat) : Int).tmod ((x36.length : Nat) : Int)).toNat))).length = (([] : List Ver) ++ ((x36.drop 0).take ((((x1.length : Nat) : Int).tmod ((x36.length : Nat) : Int)).toNat))).length ∧ (([] : List Ver) ++ ((x36.drop 0).take ((((x1.length : Nat) : Int).tmod ((x36.length : Nat) : Int)).toNat))).length + ((x36.drop ((w64 ((((x1.length : Nat) : Int).tmod ((x36.length : Nat) : Int)) + 1)).toNat)).take (x36.length - (w64 ((((x1.length : Nat) : Int).tmod ((x36.length : Nat) : Int)) + 1)).toNat)).length ≤ 1099511627776) (v := .one (.e (.sl 4 0 (((([] : List Ver) ++ ((x36.drop 0).take ((((x1.length : Nat) : Int).tmod ((x36.length : Nat) : Int)).toNat))) ++ ((x36.drop ((w64 ((((x1.length : Nat) : Int).tmod ((x36.length : Nat) : Int)) + 1)).toNat)).take (x36.length - (w64 ((((x1.length : Nat) : Int).tmod ((x36.length : Nat) : Int)) + 1)).toNat))).length)))) (H' := [.row .u8 x1 false, .row .ver x36 true, .dead, .dead, .row .ver ((([] : List Ver) ++ ((x36.drop 0).take ((((x1.length : Nat) : Int).tmod ((x36.length : Nat) : Int)).toNat))) ++ ((x36.drop ((w64 ((((x1.length : Nat) : Int).tmod ((x36.length : Nat) : Int)) + 1)).toNat)).take (x36.length - (w64 ((((x1.length : Nat) : Int).tmod ((x36.length : Nat) : Int)) + 1)).toNat))) true]) rfl rfl (by kernel_rfl) hg57 rfl (And.intro rfl (And.intro rfl (trivial))) ?_
                  refine WD_all [10] (n := 4) (by kernel_rfl) rfl ?_
                  refine WM_call [.ro 4] Try.f20 rfl rfl (by kernel_rfl) rfl rfl (by kernel_rfl) (impl_ValidVersions_ok n ((([] : List Ver) ++ ((x36.drop 0).take ((((x1.length : Nat) : Int).tmod ((x36.length : Nat) : Int)).toNat))) ++ ((x36.drop ((w64 ((((x1.length : Nat) : Int).tmod ((x36.length : Nat) : Int)) + 1)).toNat)).take (x36.length - (w64 ((((x1.length : Nat) : Int).tmod ((x36.length : Nat) : Int)) + 1)).toNat))) b58 hc59) (And.intro (And.intro rfl rfl) (trivial)) rfl (And.intro rfl (And.intro rfl (trivial))) ?_
                  refine WD_takeK [11] [46] [46] (φ := True) (ls' := #[true, true, true, true, true, true, true, true, true, true, true, true, false, false, false]) (Ts' := [(46, B b58)]) (st' := ⟨[(46, B b58)], [.row .u8 x1 false, .row .ver x36 true, .dead, .dead, .row .ver ((([] : List Ver) ++ ((x36.drop 0).take ((((x1.length : Nat) : Int).tmod ((x36.length : Nat) : Int)).toNat))) ++ ((x36.drop ((w64 ((((x1.length : Nat) : Int).tmod ((x36.length : Nat) : Int)) + 1)).toNat)).take (x36.length - (w64 ((((x1.length : Nat) : Int).tmod ((x36.length : Nat) : Int)) + 1)).toNat))) true]⟩) (n2 := 3) (by kernel_rfl) trivial rfl ?_
                  refine WD_known 46 false rfl rfl hb60 ?_
                  refine WD_takeK [12, 13, 14] [2] [2] (φ := True) (ls' := #[true, true, true, true, true, true, true, true, true, true, true, true, true, true, true]) (Ts' := [(2, B false)]) (st' := ⟨[(2, B false)], [.row .u8 x1 false, .row .ver x36 true, .dead, .dead, .row .ver ((([] : List Ver) ++ ((x36.drop 0).take ((((x1.length : Nat) : Int).tmod ((x36.length : Nat) : Int)).toNat))) ++ ((x36.drop ((w64 ((((x1.length : Nat) : Int).tmod ((x36.length : Nat) : Int)) + 1)).toNat)).take (x36.length - (w64 ((((x1.length : Nat) : Int).tmod ((x36.length : Nat) : Int)) + 1)).toNat))) true]⟩) (n2 := 0) (by kernel_rfl) trivial rfl ?_
                  exact WD_done [0] [2] (st' := ⟨[(2, B false)], [.row .u8 x1 false]⟩) (by kernel_rfl) (by kernel_rfl) (And.intro rfl (by cases hv64; rfl))
                · refine WM_op (φ := 0 ≤ (w64 ((((x1.length : Nat) : Int).tmod ((x36.length : Nat) : Int)) + 1)) ∧ (w64 ((((x1.length : Nat) : Int).tmod ((x36.length : Nat) : Int)) + 1)) ≤ ((x36.length : Nat) : Int)) (v := .one (.e (.sl 1 ((w64 ((((x1.length : Nat) : Int).tmod ((x36.length : Nat) : Int)) + 1)).toNat) (x36.length - (w64 ((((x1.length : Nat) : Int).tmod ((x36.length : Nat) : Int)) + 1)).toNat)))) (H' := [.row .u8 x1 false, .row .ver x36 true, .row .ver ([] : List Ver) true]) rfl rfl (by kernel_rfl) hg56 rfl (And.intro rfl (And.intro rfl (trivial))) ?_
                  refine WD_all [4] (n := 6) (by kernel_rfl) rfl ?_
                  refine WM_op (φ := 0 = 0 ∧ ([] : List Ver).length = ([] : List Ver).length ∧ ([] : List Ver).length + ((x36.drop 0).take ((((x1.length : Nat) : Int).tmod ((x36.length : Nat) : Int)).toNat)).length ≤ 1099511627776) (v := .one (.e (.sl 3 0 ((([] : List Ver) ++ ((x36.drop 0).take ((((x1.length : Nat) : Int).tmod ((x36.length : Nat) : Int)).toNat))).length)))) (H' := [.row .u8 x1 false, .row .ver x36 true, .dead, .row .ver (([] : List Ver) ++ ((x36.drop 0).take ((((x1.length : Nat) : Int).tmod ((x36.length : Nat) : Int)).toNat))) true]) rfl rfl (by kernel_rfl) hg55 rfl (And.intro rfl (And.intro rfl (trivial))) ?_
                  refine WD_all [9] (n := 5) (by kernel_rfl) rfl ?_
                  refine WM_op (φ := 0 = 0 ∧ (([] : List Ver) ++ ((x36.drop 0).take ((((x1.length : Nat) : Int).tmod ((x36.length : Nat) : Int)).toNat))).length = (([] : List Ver) ++ ((x36.drop 0).take ((((x1.length : Nat) : Int).tmod ((x36.length : Nat) : Int)).toNat))).length ∧ (([] : List Ver) ++ ((x36.drop 0).take ((((x1.length : Nat) : Int).tmod ((x36.length : Nat) : Int)).toNat))).length + ((x36.drop ((w64 ((((x1.length : Nat) : Int).tmod ((x36.length : Nat) : Int)) + 1)).toNat)).take (x36.length - (w64 ((((x1.length : Nat) : Int).tmod ((x36.length : Nat) : Int)) + 1)).toNat)).length ≤ 1099511627776) (v := .one (.e (.sl 4 0 (((([] : List Ver) ++ ((x36.drop 0).take ((((x1.length : Nat) : Int).tmod ((x36.length : Nat) : Int)).toNat))) ++ ((x36.drop ((w64 ((((x1.length : Nat) : Int).tmod ((x36.length : Nat) : Int)) + 1)).toNat)).take (x36.length - (w64 ((((x1.length : Nat) : Int).tmod ((x36.length : Nat) : Int)) + 1)).toNat))).length)))) (H' := [.row .u8 x1 false, .row .ver x36 true, .dead, .dead, .row .ver ((([] : List Ver) ++ ((x36.drop 0).take ((((x1.length : Nat) : Int).tmod ((x36.length : Nat) : Int)).toNat))) ++ ((x36.drop ((w64 ((((x1.length : Nat) : Int).tmod ((x36.length : Nat) : Int)) + 1)).toNat)).take (x36.length - (w64 ((((x1.length : Nat) : Int).tmod ((x36.length : Nat) : Int)) + 1)).toNat))) true]) rfl rfl (by kernel_rfl) hg57 rfl (And.intro rfl (And.intro rfl (trivial))) ?_
                  refine WD_all [10] (n := 4) (by kernel_rfl) rfl ?_
                  refine WM_call [.ro 4] Try.f20 rfl rfl (by kernel_rfl) rfl rfl (by kernel_rfl) (impl_ValidVersions_ok n ((([] : List Ver) ++ ((x36.drop 0).take ((((x1.length : Nat) : Int).tmod ((x36.length : Nat) : Int)).toNat))) ++ ((x36.drop ((w64 ((((x1.length : Nat) : Int).tmod ((x36.length : Nat) : Int)) + 1)).toNat)).take (x36.length - (w64 ((((x1.length : Nat) : Int).tmod ((x36.length : Nat) : Int)) + 1)).toNat))) b58 hc59) (And.intro (And.intro rfl rfl) (trivial)) rfl (And.intro rfl (And.intro rfl (trivial))) ?_
                  refine WD_takeK [11] [46] [46] (φ := True) (ls' := #[true, true, true, true, true, true, true, true, true, true, true, true, false, false, false]) (Ts' := [(46, B b58)]) (st' := ⟨[(46, B b58)], [.row .u8 x1 false, .row .ver x36 true, .dead, .dead, .row .ver ((([] : List Ver) ++ ((x36.drop 0).take ((((x1.length : Nat) : Int).tmod ((x36.length : Nat) : Int)).toNat))) ++ ((x36.drop ((w64 ((((x1.length : Nat) : Int).tmod ((x36.length : Nat) : Int)) + 1)).toNat)).take (x36.length - (w64 ((((x1.length : Nat) : Int).tmod ((x36.length : Nat) : Int)) + 1)).toNat))) true]⟩) (n2 := 3) (by kernel_rfl) trivial rfl ?_
                  refine WD_known 46 false rfl rfl hb60 ?_
                  refine WD_takeK [12, 13, 14] [2] [2] (φ := True) (ls' := #[true, true, true, true, true, true, true, true, true, true, true, true, true, true, true]) (Ts' := [(2, B false)]) (st' := ⟨[(2, B false)], [.row .u8 x1 false, .row .ver x36 true, .dead, .dead, .row .ver ((([] : List Ver) ++ ((x36.drop 0).take ((((x1.length : Nat) : Int).tmod ((x36.length : Nat) : Int)).toNat))) ++ ((x36.drop ((w64 ((((x1.length : Nat) : Int).tmod ((x36.length : Nat) : Int)) + 1)).toNat)).take (x36.length - (w64 ((((x1.length : Nat) : Int).tmod ((x36.length : Nat) : Int)) + 1)).toNat))) true]⟩) (n2 := 0) (by kernel_rfl) trivial rfl ?_
                  exact WD_done [0] [2] (st' := ⟨[(2, B false)], [.row .u8 x1 false]⟩) (by kernel_rfl) (by kernel_rfl) (And.intro rfl (by cases hv64; rfl))
              · refine WM_op (φ := 0 ≤ (w64 ((((x1.length : Nat) : Int).tmod ((x36.length : Nat) : Int)) + 1)) ∧ (w64 ((((x1.length : Nat) : Int).tmod ((x36.length : Nat) : Int)) + 1)) ≤ ((x36.length : Nat) : Int)) (v := .one (.e (.sl 1 ((w64 ((((x1.length : Nat) : Int).tmod ((x36.length : Nat) : Int)) + 1)).toNat) (x36.length - (w64 ((((x1.length : Nat) : Int).tmod ((x36.length : Nat) : Int)) + 1)).toNat)))) (H' := [.row .u8 x1 false, .row .ver x36 true]) rfl rfl (by kernel_rfl) hg56 rfl (And.intro rfl (And.intro rfl (trivial))) ?_
                refine WD_all [0] (n := 7) (by kernel_rfl) rfl ?_
                refine WM_op (φ := True) (v := .one (.e (.sl 2 0 (([] : List Ver).length)))) (H' := [.row .u8 x1 false, .row .ver x36 true, .row .ver ([] : List Ver) true]) rfl rfl (by kernel_rfl) trivial rfl (And.intro rfl (And.intro rfl (trivial))) ?_
                refine WD_all [4] (n := 6) (by kernel_rfl) rfl ?_
                refine WM_op (φ := 0 = 0 ∧ ([] : List Ver).length = ([] : List Ver).length ∧ ([] : List Ver).length + ((x36.drop 0).take ((((x1.length : Nat) : Int).tmod ((x36.length : Nat) : Int)).toNat)).length ≤ 1099511627776) (v := .one (.e (.sl 3 0 ((([] : List Ver) ++ ((x36.drop 0).take ((((x1.length : Nat) : Int).tmod ((x36.length : Nat) : Int)).toNat))).length)))) (H' := [.row .u8 x1 false, .row .ver x36 true, .dead, .row .ver (([] : List Ver) ++ ((x36.drop 0).take ((((x1.length : Nat) : Int).tmod ((x36.length : Nat) : Int)).toNat))) true]) rfl rfl (by kernel_rfl) hg55 rfl (And.intro rfl (And.intro rfl (trivial))) ?_
                refine WD_all [9] (n := 5) (by kernel_rfl) rfl ?_
                refine WM_op (φ := 0 = 0 ∧ (([] : List Ver) ++ ((x36.drop 0).take ((((x1.length : Nat) : Int).tmod ((x36.length : Nat) : Int)).toNat))).length = (([] : List Ver) ++ ((x36.drop 0).take ((((x1.length : Nat) : Int).tmod ((x36.length : Nat) : Int)).toNat))).length ∧ (([] : List Ver) ++ ((x36.drop 0).take ((((x1.length : Nat) : Int).tmod ((x36.length : Nat) : Int)).toNat))).length + ((x36.drop ((w64 ((((x1.length : Nat) : Int).tmod ((x36.length : Nat) : Int)) + 1)).toNat)).take (x36.length - (w64 ((((x1.length : Nat) : Int).tmod ((x36.length : Nat) : Int)) + 1)).toNat)).length ≤ 1099511627776) (v := .one (.e (.sl 4 0 (((([] : List Ver) ++ ((x36.drop 0).take ((((x1.length : Nat) : Int).tmod ((x36.length : Nat) : Int)).toNat))) ++ ((x36.drop ((w64 ((((x1.length : Nat) : Int).tmod ((x36.length : Nat) : Int)) + 1)).toNat)).take (x36.length - (w64 ((((x1.length : Nat) : Int).tmod ((x36.length : Nat) : Int)) + 1)).toNat))).length)))) (H' := [.row .u8 x1 false, .row .ver x36 true, .dead, .dead, .row .ver ((([] : List Ver) ++ ((x36.drop 0).take ((((x1.length : Nat) : Int).tmod ((x36.length : Nat) : Int)).toNat))) ++ ((x36.drop ((w64 ((((x1.length : Nat) : Int).tmod ((x36.length : Nat) : Int)) + 1)).toNat)).take (x36.length - (w64 ((((x1.length : Nat) : Int).tmod ((x36.length : Nat) : Int)) + 1)).toNat))) true]) rfl rfl (by kernel_rfl) hg57 rfl (And.intro rfl (And.intro rfl (trivial))) ?_
                refine WD_all [10] (n := 4) (by kernel_rfl) rfl ?_
                refine WM_call [.ro 4] Try.f20 rfl rfl (by kernel_rfl) rfl rfl (by kernel_rfl) (impl_ValidVersions_ok n ((([] : List Ver) ++ ((x36.drop 0).take ((((x1.length : Nat) : Int).tmod ((x36.length : Nat) : Int)).toNat))) ++ ((x36.drop ((w64 ((((x1.length : Nat) : Int).tmod ((x36.length : Nat) : Int)) + 1)).toNat)).take (x36.length - (w64 ((((x1.length : Nat) : Int).tmod ((x36.length : Nat) : Int)) + 1)).toNat))) b58 hc59) (And.intro (And.intro rfl rfl) (trivial)) rfl (And.intro rfl (And.intro rfl (trivial))) ?_
                refine WD_takeK [11] [46] [46] (φ := True) (ls' := #[true, true, true, true, true, true, true, true, true, true, true, true, false, false, false]) (Ts' := [(46, B b58)]) (st' := ⟨[(46, B b58)], [.row .u8 x1 false, .row .ver x36 true, .dead, .dead, .row .ver ((([] : List Ver) ++ ((x36.drop 0).take ((((x1.length : Nat) : Int).tmod ((x36.length : Nat) : Int)).toNat))) ++ ((x36.drop ((w64 ((((x1.length : Nat) : Int).tmod ((x36.length : Nat) : Int)) + 1)).toNat)).take (x36.length - (w64 ((((x1.length : Nat) : Int).tmod ((x36.length : Nat) : Int)) + 1)).toNat))) true]⟩) (n2 := 3) (by kernel_rfl) trivial rfl ?_
                refine WD_known 46 false rfl rfl hb60 ?_
                refine WD_takeK [12, 13, 14] [2] [2] (φ := True) (ls' := #[true, true, true, true, true, true, true, true, true, true, true, true, true, true, true]) (Ts' := [(2, B false)]) (st' := ⟨[(2, B false)], [.row .u8 x1 false, .row .ver x36 true, .dead, .dead, .row .ver ((([] : List Ver) ++ ((x36.drop 0).take ((((x1.length : Nat) : Int).tmod ((x36.length : Nat) : Int)).toNat))) ++ ((x36.drop ((w64 ((((x1.length : Nat) : Int).tmod ((x36.length : Nat) : Int)) + 1)).toNat)).take (x36.length - (w64 ((((x1.length : Nat) : Int).tmod ((x36.length : Nat) : Int)) + 1)).toNat))) true]⟩) (n2 := 0) (by kernel_rfl) trivial rfl ?_
                exact WD_done [0] [2] (st' := ⟨[(2, B false)], [.row .u8 x1 false]⟩) (by kernel_rfl) (by kernel_rfl) (And.intro rfl (by cases hv64; rfl))
            · refine WM_op (φ := 0 ≤ (w64 ((((x1.length : Nat) : Int).tmod ((x36.length : Nat) : Int)) + 1)) ∧ (w64 ((((x1.length : Nat) : Int).tmod ((x36.length : Nat) : Int)) + 1)) ≤ ((x36.length : Nat) : Int)) (v := .one (.e (.sl 1 ((w64 ((((x1.length : Nat) : Int).tmod ((x36.length : Nat) : Int)) + 1)).toNat) (x36.length - (w64 ((((x1.length : Nat) : Int).tmod ((x36.length : Nat) : Int)) + 1)).toNat)))) (H' := [.row .u8 x1 false, .row .ver x36 true]) rfl rfl (by kernel_rfl) hg56 rfl (And.intro rfl (And.intro rfl (trivial))) ?_
              refine WD_all [0, 3] (n := 8) (by kernel_rfl) rfl (And.intro ?_ (?_))
              · refine WM_op (φ := True) (v := .one (.e (.sl 2 0 (([] : List Ver).length)))) (H' := [.row .u8 x1 false, .row .ver x36 true, .row .ver ([] : List Ver) true]) rfl rfl (by kernel_rfl) trivial rfl (And.intro rfl (And.intro rfl (trivial))) ?_
                refine WD_all [3] (n := 7) (by kernel_rfl) rfl ?_
                refine WM_op (φ := 0 ≤ (((x1.length : Nat) : Int).tmod ((x36.length : Nat) : Int)) ∧ (((x1.length : Nat) : Int).tmod ((x36.length : Nat) : Int)) ≤ ((x36.length : Nat) : Int)) (v := .one (.e (.sl 1 0 ((((x1.length : Nat) : Int).tmod ((x36.length : Nat) : Int)).toNat)))) (H' := [.row .u8 x1 false, .row .ver x36 true, .row .ver ([] : List Ver) true]) rfl rfl (by kernel_rfl) hg54 rfl (And.intro rfl (And.intro rfl (trivial))) ?_
                refine WD_all [4] (n := 6) (by kernel_rfl) rfl ?_
                refine WM_op (φ := 0 = 0 ∧ ([] : List Ver).length = ([] : List Ver).length ∧ ([] : List Ver).length + ((x36.drop 0).take ((((x1.length : Nat) : Int).tmod ((x36.length : Nat) : Int)).toNat)).length ≤ 1099511627776) (v := .one (.e (.sl 3 0 ((([] : List Ver) ++ ((x36.drop 0).take ((((x1.length : Nat) : Int).tmod ((x36.length : Nat) : Int)).toNat))).length)))) (H' := [.row .u8 x1 false, .row .ver x36 true, .dead, .row .ver (([] : List Ver) ++ ((x36.drop 0).take ((((x1.length : Nat) : Int).tmod ((x36.length : Nat) : Int)).toNat))) true]) rfl rfl (by kernel_rfl) hg55 rfl (And.intro rfl (And.intro rfl (trivial))) ?_
                refine WD_all [9] (n := 5) (by kernel_rfl) rfl ?_
                refine WM_op (φ := 0 = 0 ∧ (([] : List Ver) ++ ((x36.drop 0).take ((((x1.length : Nat) : Int).tmod ((x36.length : Nat) : Int)).toNat))).length = (([] : List Ver) ++ ((x36.drop 0).take ((((x1.length : Nat) : Int).tmod ((x36.length : Nat) : Int)).toNat))).length ∧ (([] : List Ver) ++ ((x36.drop 0).take ((((x1.length : Nat) : Int).tmod ((x36.length : Nat) : Int)).toNat))).length + ((x36.drop ((w64 ((((x1.length : Nat) : Int).tmod ((x36.length : Nat) : Int)) + 1)).toNat)).take (x36.length - (w64 ((((x1.length : Nat) : Int).tmod ((x36.length : Nat) : Int)) + 1)).toNat)).length ≤ 1099511627776) (v := .one (.e (.sl 4 0 (((([] : List Ver) ++ ((x36.drop 0).take ((((x1.length : Nat) : Int).tmod ((x36.length : Nat) : Int)).toNat))) ++ ((x36.drop ((w64 ((((x1.length : Nat) : Int).tmod ((x36.length : Nat) : Int)) + 1)).toNat)).take (x36.length - (w64 ((((x1.length : Nat) : Int).tmod ((x36.length : Nat) : Int)) + 1)).toNat))).length)))) (H' := [.row .u8 x1 false, .row .ver x36 true, .dead, .dead, .row .ver ((([] : List Ver) ++ ((x36.drop 0).take ((((x1.length : Nat) : Int).tmod ((x36.length : Nat) : Int)).toNat))) ++ ((x36.drop ((w64 ((((x1.length : Nat) : Int).tmod ((x36.length : Nat) : Int)) + 1)).toNat)).take (x36.length - (w64 ((((x1.length : Nat) : Int).tmod ((x36.length : Nat) : Int)) + 1)).toNat))) true]) rfl rfl (by kernel_rfl) hg57 rfl (And.intro rfl (And.intro rfl (trivial))) ?_
                refine WD_all [10] (n := 4) (by kernel_rfl) rfl ?_
                refine WM_call [.ro 4] Try.f20 rfl rfl (by kernel_rfl) rfl rfl (by kernel_rfl) (impl_ValidVersions_ok n ((([] : List Ver) ++ ((x36.drop 0).take ((((x1.length : Nat) : Int).tmod ((x36.length : Nat) : Int)).toNat))) ++ ((x36.drop ((w64 ((((x1.length : Nat) : Int).tmod ((x36.length : Nat) : Int)) + 1)).toNat)).take (x36.length - (w64 ((((x1.length : Nat) : Int).tmod ((x36.length : Nat) : Int)) + 1)).toNat))) b58 hc59) (And.intro (And.intro rfl rfl) (trivial)) rfl (And.intro rfl (And.intro rfl (trivial))) ?_
                refine WD_takeK [11] [46] [46] (φ := True) (ls' := #[true, true, true, true, true, true, true, true, true, true, true, true, false, false, false]) (Ts' := [(46, B b58)]) (st' := ⟨[(46, B b58)], [.row .u8 x1 false, .row .ver x36 true, .dead, .dead, .row .ver ((([] : List Ver) ++ ((x36.drop 0).take ((((x1.length : Nat) : Int).tmod ((x36.length : Nat) : Int)).toNat))) ++ ((x36.drop ((w64 ((((x1.length : Nat) : Int).tmod ((x36.length : Nat) : Int)) + 1)).toNat)).take (x36.length - (w64 ((((x1.length : Nat) : Int).tmod ((x36.length : Nat) : Int)) + 1)).toNat))) true]⟩) (n2 := 3) (by kernel_rfl) trivial rfl ?_
                refine WD_known 46 false rfl rfl hb60 ?_
                refine WD_takeK [12, 13, 14] [2] [2] (φ := True) (ls' := #[true, true, true, true, true, true, true, true, true, true, true, true, true, true, true]) (Ts' := [(2, B false)]) (st' := ⟨[(2, B false)], [.row .u8 x1 false, .row .ver x36 true, .dead, .dead, .row .ver ((([] : List Ver) ++ ((x36.drop 0).take ((((x1.length : Nat) : Int).tmod ((x36.length : Nat) : Int)).toNat))) ++ ((x36.drop ((w64 ((((x1.length : Nat) : Int).tmod ((x36.length : Nat) : Int)) + 1)).toNat)).take (x36.length - (w64 ((((x1.length : Nat) : Int).tmod ((x36.length : Nat) : Int)) + 1)).toNat))) true]⟩) (n2 := 0) (by kernel_rfl) trivial rfl ?_
                exact WD_done [0] [2] (st' := ⟨[(2, B false)], [.row .u8 x1 false]⟩) (by kernel_rfl) (by kernel_rfl) (And.intro rfl (by cases hv64; rfl))
              · refine WM_op (φ := 0 ≤ (((x1.length : Nat) : Int).tmod ((x36.length : Nat) : Int)) ∧ (((x1.length : Nat) : Int).tmod ((x36.length : Nat) : Int)) ≤ ((x36.length : Nat) : Int)) (v := .one (.e (.sl 1 0 ((((x1.length : Nat) : Int).tmod ((x36.length : Nat) : Int)).toNat)))) (H' := [.row .u8 x1 false, .row .ver x36 true]) rfl rfl (by kernel_rfl) hg54 rfl (And.intro rfl (And.intro rfl (trivial))) ?_
                refine WD_all [0] (n := 7) (by kernel_rfl) rfl ?_
                refine WM_op (φ := True) (v := .one (.e (.sl 2 0 (([] : List Ver).length)))) (H' := [.row .u8 x1 false, .row .ver x36 true, .row .ver ([] : List Ver) true]) rfl rfl (by kernel_rfl) trivial rfl (And.intro rfl (And.intro rfl (trivial))) ?_
                refine WD_all [4] (n := 6) (by kernel_rfl) rfl ?_
                refine WM_op (φ := 0 = 0 ∧ ([] : List Ver).length = ([] : List Ver).length ∧ ([] : List Ver).length + ((x36.drop 0).take ((((x1.length : Nat) : Int).tmod ((x36.length : Nat) : Int)).toNat)).length ≤ 1099511627776) (v := .one (.e (.sl 3 0 ((([] : List Ver) ++ ((x36.drop 0).take ((((x1.length : Nat) : Int).tmod ((x36.length : Nat) : Int)).toNat))).length)))) (H' := [.row .u8 x1 false, .row .ver x36 true, .dead, .row .ver (([] : List Ver) ++ ((x36.drop 0).take ((((x1.length : Nat) : Int).tmod ((x36.length : Nat) : Int)).toNat))) true]) rfl rfl (by kernel_rfl) hg55 rfl (And.intro rfl (And.intro rfl (trivial))) ?_
                refine WD_all [9] (n := 5) (by kernel_rfl) rfl ?_
                refine WM_op (φ := 0 = 0 ∧ (([] : List Ver) ++ ((x36.drop 0).take ((((x1.length : Nat) : Int).tmod ((x36.length : Nat) : Int)).toNat))).length = (([] : List Ver) ++ ((x36.drop 0).take ((((x1.length : Nat) : Int).tmod ((x36.length : Nat) : Int)).toNat))).length ∧ (([] : List Ver) ++ ((x36.drop 0).take ((((x1.length : Nat) : Int).tmod ((x36.length : Nat) : Int)).toNat))).length + ((x36.drop ((w64 ((((x1.length : Nat) : Int).tmod ((x36.length : Nat) : Int)) + 1)).toNat)).take (x36.length - (w64 ((((x1.length : Nat) : Int).tmod ((x36.length : Nat) : Int)) + 1)).toNat)).length ≤ 1099511627776) (v := .one (.e (.sl 4 0 (((([] : List Ver) ++ ((x36.drop 0).take ((((x1.length : Nat) : Int).tmod ((x36.length : Nat) : Int)).toNat))) ++ ((x36.drop ((w64 ((((x1.length : Nat) : Int).tmod ((x36.length : Nat) : Int)) + 1)).toNat)).take (x36.length - (w64 ((((x1.length : Nat) : Int).tmod ((x36.length : Nat) : Int)) + 1)).toNat))).length)))) (H' := [.row .u8 x1 false, .row .ver x36 true, .dead, .dead, .row .ver ((([] : List Ver) ++ ((x36.drop 0).take ((((x1.length : Nat) : Int).tmod ((x36.length : Nat) : Int)).toNat))) ++ ((x36.drop ((w64 ((((x1.length : Nat) : Int).tmod ((x36.length : Nat) : Int)) + 1)).toNat)).take (x36.length - (w64 ((((x1.length : Nat) : Int).tmod ((x36.length : Nat) : Int)) + 1)).toNat))) true]) rfl rfl (by kernel_rfl) hg57 rfl (And.intro rfl (And.intro rfl (trivial))) ?_
                refine WD_all [10] (n := 4) (by kernel_rfl) rfl ?_
                refine WM_call [.ro 4] Try.f20 rfl rfl (by kernel_rfl) rfl rfl (by kernel_rfl) (impl_ValidVersions_ok n ((([] : List Ver) ++ ((x36.drop 0).take ((((x1.length : Nat) : Int).tmod ((x36.length : Nat) : Int)).toNat))) ++ ((x36.drop ((w64 ((((x1.length : Nat) : Int).tmod ((x36.length : Nat) : Int)) + 1)).toNat)).take (x36.length - (w64 ((((x1.length : Nat) : Int).tmod ((x36.length : Nat) : Int)) + 1)).toNat))) b58 hc59) (And.intro (And.intro rfl rfl) (trivial)) rfl (And.intro rfl (And.intro rfl (trivial))) ?_
                refine WD_takeK [11] [46] [46] (φ := True) (ls' := #[true, true, true, true, true, true, true, true, true, true, true, true, false, false, false]) (Ts' := [(46, B b58)]) (st' := ⟨[(46, B b58)], [.row .u8 x1 false, .row .ver x36 true, .dead, .dead, .row .ver ((([] : List Ver) ++ ((x36.drop 0).take ((((x1.length : Nat) : Int).tmod ((x36.length : Nat) : Int)).toNat))) ++ ((x36.drop ((w64 ((((x1.length : Nat) : Int).tmod ((x36.length : Nat) : Int)) + 1)).toNat)).take (x36.length - (w64 ((((x1.length : Nat) : Int).tmod ((x36.length : Nat) : Int)) + 1)).toNat))) true]⟩) (n2 := 3) (by kernel_rfl) trivial rfl ?_
                refine WD_known 46 false rfl rfl hb60 ?_
                refine WD_takeK [12, 13, 14] [2] [2] (φ := True) (ls' := #[true, true, true, true, true, true, true, true, true, true, true, true, true, true, true]) (Ts' := [(2, B false)]) (st' := ⟨[(2, B false)], [.row .u8 x1 false, .row .ver x36 true, .dead, .dead, .row .ver ((([] : List Ver) ++ ((x36.drop 0).take ((((x1.length : Nat) : Int).tmod ((x36.length : Nat) : Int)).toNat))) ++ ((x36.drop ((w64 ((((x1.length : Nat) : Int).tmod ((x36.length : Nat) : Int)) + 1)).toNat)).take (x36.length - (w64 ((((x1.length : Nat) : Int).tmod ((x36.length : Nat) : Int)) + 1)).toNat))) true]⟩) (n2 := 0) (by kernel_rfl) trivial rfl ?_
                exact WD_done [0] [2] (st' := ⟨[(2, B false)], [.row .u8 x1 false]⟩) (by kernel_rfl) (by kernel_rfl) (And.intro rfl (by cases hv64; rfl))
        · rintro _ _ ⟨rfl, rfl⟩
          refine thenS_n ?_
          refine W_ret ?_
          cases h
          exact ⟨[0], True, by kernel_rfl, trivial⟩

end Go.Proofs.Ytnaogmahijgibaa

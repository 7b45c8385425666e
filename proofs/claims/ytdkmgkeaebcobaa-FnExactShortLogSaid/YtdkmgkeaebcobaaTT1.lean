import Derived.Test.YtdkmgkeaebcobaaTLt
import Derived.Test.YtdkmgkeaebcobaaTLxa
import Derived.Test.YtdkmgkeaebcobaaProg
namespace Go.Proofs.Ytdkmgkeaebcobaa
open Go
set_option linter.unusedVariables false
noncomputable def EE : Env := ⟨Try.prog, fun _ => none, fun t => match t with | 3 => some .int | 5 => some .u8 | 9 => some .str | 32 => some .rcd | 57 => some .nod | 60 => some .nod | 63 => some .rcd | _ => none⟩
/- laws.szNode -/
def laws_szNode (x1 : Nod) (i2 : Int) : Option (Int) :=
 iteO (decide ((w64 (i2 - ((x1.name.length : Nat) : Int))) < 0))
 (some (-1))
 (some (w64 (i2 - ((x1.name.length : Nat) : Int))))

theorem laws_szNode_ok (x1 : Nod) (i2 : Int) (i5 : Int) (h : laws_szNode x1 i2 = some i5) : FOk EE 52 [AGG [cI x1.parent, cS x1.name, cI x1.value], I i2] [] (I i5) [] := by
  unfold laws_szNode at h
  refine FOk_of_W 13 0 Try.func52 rfl rfl (Nat.le_of_ble_eq_true rfl) rfl (fun w X θ => ?_)
  refine W_seq ?_
  refine W_region ?_
  refine WO_step 2 [0] [1, 2] (True ∧ True) ⟨[(1, I i2), (2, .one (.e (.p 0 0)))], [.cells [cI x1.parent, cS x1.name, cI x1.value]]⟩ (by kernel_rfl) ⟨trivial, trivial⟩ ?_
  refine WO_nil rfl ?_
  refine thenS_n ?_
  refine W_seq ?_
  refine W_region ?_
  refine WO_step 6 [] [1] (True ∧ (True ∧ (True ∧ True))) ⟨[(1, I (w64 (i2 - ((x1.name.length : Nat) : Int))))], []⟩ (by kernel_rfl) ⟨trivial, trivial, trivial, trivial⟩ ?_
  refine WO_nil rfl ?_
  refine thenS_n ?_
  refine W_seq ?_
  refine W_seq ?_
  refine W_region ?_
  refine WO_step 2 [] [1, 11] (True ∧ True) ⟨[(1, I (w64 (i2 - ((x1.name.length : Nat) : Int)))), (11, B (decide ((w64 (i2 - ((x1.name.length : Nat) : Int))) < 0)))], []⟩ (by kernel_rfl) ⟨trivial, trivial⟩ ?_
  refine WO_nil rfl ?_
  refine thenS_n ?_
  refine iteO_e h (fun hb7 h => W_true rfl hb7 ?_) (fun hb7 h => W_false rfl hb7 ?_)
  · refine W_seq ?_
    refine W_region ?_
    refine WO_step 1 [] [4] True ⟨[(4, I (-1))], []⟩ (by kernel_rfl) trivial ?_
    refine WO_nil rfl ?_
    refine thenS_n ?_
    refine W_ret ?_
    refine thenS_r ?_
    cases h
    exact ⟨[], True, by kernel_rfl, trivial⟩
  · refine W_sub [] [1] (st' := ⟨[(1, I (w64 (i2 - ((x1.name.length : Nat) : Int))))], []⟩) (by kernel_rfl) ?_
    refine W_skip ?_
    refine thenS_n ?_
    refine W_seq ?_
    refine W_region ?_
    refine WO_step 2 [] [4] True ⟨[(4, I (w64 (i2 - ((x1.name.length : Nat) : Int))))], []⟩ (by kernel_rfl) trivial ?_
    refine WO_nil rfl ?_
    refine thenS_n ?_
    refine W_ret ?_
    cases h
    exact ⟨[], True, by kernel_rfl, trivial⟩

/- laws.szNodeS -/
def laws_szNodeS_L1 (x1 : List Nod) : Nat → Int → Int → Option ((Unit) ⊕ (Int))
| 0, _, _ => none
| n + 1, i74, i75 =>
 iteO (decide (i75 < ((x1.length : Nat) : Int)))
 (guardO (0 ≤ i75 ∧ i75 < ((x1.length : Nat) : Int)) <|
 bindO (laws_szNode (x1.getD i75.toNat dnod) i74) fun i100 =>
 iteO (decide (i100 < 0))
 (some (.inl ()))
 (laws_szNodeS_L1 x1 n i100 (w64 (i75 + 1))))
 (some (.inr i74))

theorem laws_szNodeS_L1_ok (w : World) (X : Nat → Prop) (θ : List Loc) (x1 : List Nod) (v : (Unit) ⊕ (Int)) : ∀ (n : Nat) (i74 : Int) (i75 : Int), laws_szNodeS_L1 x1 n i74 i75 = some v → WL EE ⟨w, X, θ, 27, 1⟩ (subC [1, 1, 1, 0, 1, 4, 4] (bodyC Try.f26)) (fun (e : Exit) (s : St) => (match v with | (.inl _) => e = .ret ∧ s = ⟨[(4, I (-1))], [.row .nod x1 false]⟩ | (.inr i90) => e = .exit 0 ∧ s = ⟨[(1, I i90)], [.row .nod x1 false]⟩ : Prop)) ⟨[(0, .one (.e (.sl 0 0 x1.length))), (1, I i74), (5, I i75)], [.row .nod x1 false]⟩ := by
  intro n
  induction n with
  | zero => intro _ _ h; exact none_e h
  | succ n ih =>
    intro i74 i75 h
    rw [laws_szNodeS_L1] at h
    refine WL_round ?_
    refine W_seq ?_
    refine W_seq ?_
    refine W_region ?_
    refine WO_step 4 [0] [0, 1, 5, 15] (True ∧ (True ∧ True)) ⟨[(0, .one (.e (.sl 0 0 x1.length))), (1, I i74), (5, I i75), (15, B (decide (i75 < ((x1.length : Nat) : Int))))], [.row .nod x1 false]⟩ (by kernel_rfl) ⟨trivial, trivial, trivial⟩ ?_
    refine WO_nil rfl ?_
    refine thenS_n ?_
    refine iteO_e h (fun hb93 h => W_true rfl hb93 ?_) (fun hb93 h => W_false rfl hb93 ?_)
    · refine W_sub [0] [0, 1, 5] (st' := ⟨[(0, .one (.e (.sl 0 0 x1.length))), (1, I i74), (5, I i75)], [.row .nod x1 false]⟩) (by kernel_rfl) ?_
      refine W_skip ?_
      refine thenS_n ?_
      refine W_seq ?_
      refine W_block ?_
      refine W_seq ?_
      refine W_region ?_
      refine guardO_e h (fun hg99 h => ?_)
      refine WO_step 5 [0] [0, 5, 21, 22] ((0 ≤ i75 ∧ i75 < ((x1.length : Nat) : Int)) ∧ (True ∧ True)) ⟨[(0, .one (.e (.sl 0 0 x1.length))), (5, I i75), (21, AGG [cI ((x1.getD i75.toNat dnod).parent), cS ((x1.getD i75.toNat dnod).name), cI ((x1.getD i75.toNat dnod).value)]), (22, I i74)], [.row .nod x1 false]⟩ (by kernel_rfl) ⟨hg99, trivial, trivial⟩ ?_
      refine bindO_e h (fun i100 hc101 h => ?_)
      refine WO_call [] Try.f52 rfl rfl rfl (by kernel_rfl) rfl rfl (by kernel_rfl) (laws_szNode_ok (x1.getD i75.toNat dnod) i74 i100 hc101) (trivial) rfl ?_
      refine WO_step 1 [0] [0, 1, 5] True ⟨[(0, .one (.e (.sl 0 0 x1.length))), (1, I i100), (5, I i75)], [.row .nod x1 false]⟩ (by kernel_rfl) trivial ?_
      refine WO_nil rfl ?_
      refine thenS_n ?_
      refine W_seq ?_
      refine W_region ?_
      refine WO_step 2 [0] [0, 1, 5, 25] (True ∧ True) ⟨[(0, .one (.e (.sl 0 0 x1.length))), (1, I i100), (5, I i75), (25, B (decide (i100 < 0)))], [.row .nod x1 false]⟩ (by kernel_rfl) ⟨trivial, trivial⟩ ?_
      refine WO_nil rfl ?_
      refine thenS_n ?_
      refine iteO_e h (fun hb103 h => W_true rfl hb103 ?_) (fun hb103 h => W_false rfl hb103 ?_)
      · refine W_seq ?_
        refine W_region ?_
        refine WO_step 1 [0] [4] True ⟨[(4, I (-1))], [.row .nod x1 false]⟩ (by kernel_rfl) trivial ?_
        refine WO_nil rfl ?_
        refine thenS_n ?_
        refine W_ret ?_
        refine blockS_r ?_
        refine thenS_r ?_
        refine thenS_r ?_
        cases h
        exact And.intro rfl rfl
      · refine W_sub [0] [0, 1, 5] (st' := ⟨[(0, .one (.e (.sl 0 0 x1.length))), (1, I i100), (5, I i75)], [.row .nod x1 false]⟩) (by kernel_rfl) ?_
        refine W_skip ?_
        refine blockS_n ?_
        refine thenS_n ?_
        refine W_region ?_
        refine WO_step 3 [0] [0, 1, 5] (True ∧ True) ⟨[(0, .one (.e (.sl 0 0 x1.length))), (1, I i100), (5, I (w64 (i75 + 1)))], [.row .nod x1 false]⟩ (by kernel_rfl) ⟨trivial, trivial⟩ ?_
        refine WO_nil rfl ?_
        refine thenS_n ?_
        exact ih _ _ h
    · refine W_sub [0] [1] (st' := ⟨[(1, I i74)], [.row .nod x1 false]⟩) (by kernel_rfl) ?_
      refine W_exit ?_
      refine thenS_e ?_
      refine thenS_e ?_
      cases h
      exact And.intro rfl rfl

def laws_szNodeS (n : Nat) (x1 : List Nod) (i2 : Int) : Option (Int) :=
 iteO (decide ((w64 (i2 - ((x1.length : Nat) : Int))) < 0))
 (some (-1))
 (bindO (laws_szNodeS_L1 x1 n (w64 (i2 - ((x1.length : Nat) : Int))) 0) fun v104 =>
 match v104 with
 | (.inl _) => (some (-1))
 | (.inr i90) => (some i90)
)

theorem laws_szNodeS_ok (n : Nat) (x1 : List Nod) (i2 : Int) (i53 : Int) (h : laws_szNodeS n x1 i2 = some i53) : FOk EE 26 [.one (.e (.sl 0 0 x1.length)), I i2] [.row .nod x1 false] (I i53) [.row .nod x1 false] := by
  unfold laws_szNodeS at h
  refine FOk_of_W 27 1 Try.func26 rfl rfl (Nat.le_of_ble_eq_true rfl) rfl (fun w X θ => ?_)
  refine W_seq ?_
  refine W_region ?_
  refine WO_step 1 [0] [0, 1] True ⟨[(0, .one (.e (.sl 0 0 x1.length))), (1, I i2)], [.row .nod x1 false]⟩ (by kernel_rfl) trivial ?_
  refine WO_nil rfl ?_
  refine thenS_n ?_
  refine W_seq ?_
  refine W_region ?_
  refine WO_step 5 [0] [0, 1] (True ∧ (True ∧ True)) ⟨[(0, .one (.e (.sl 0 0 x1.length))), (1, I (w64 (i2 - ((x1.length : Nat) : Int))))], [.row .nod x1 false]⟩ (by kernel_rfl) ⟨trivial, trivial, trivial⟩ ?_
  refine WO_nil rfl ?_
  refine thenS_n ?_
  refine W_seq ?_
  refine W_seq ?_
  refine W_region ?_
  refine WO_step 2 [0] [0, 1, 11] (True ∧ True) ⟨[(0, .one (.e (.sl 0 0 x1.length))), (1, I (w64 (i2 - ((x1.length : Nat) : Int)))), (11, B (decide ((w64 (i2 - ((x1.length : Nat) : Int))) < 0)))], [.row .nod x1 false]⟩ (by kernel_rfl) ⟨trivial, trivial⟩ ?_
  refine WO_nil rfl ?_
  refine thenS_n ?_
  refine iteO_e h (fun hb55 h => W_true rfl hb55 ?_) (fun hb55 h => W_false rfl hb55 ?_)
  · refine W_seq ?_
    refine W_region ?_
    refine WO_step 1 [0] [4] True ⟨[(4, I (-1))], [.row .nod x1 false]⟩ (by kernel_rfl) trivial ?_
    refine WO_nil rfl ?_
    refine thenS_n ?_
    refine W_ret ?_
    refine thenS_r ?_
    cases h
    exact ⟨[0], True, by kernel_rfl, trivial⟩
  · refine W_sub [0] [0, 1] (st' := ⟨[(0, .one (.e (.sl 0 0 x1.length))), (1, I (w64 (i2 - ((x1.length : Nat) : Int))))], [.row .nod x1 false]⟩) (by kernel_rfl) ?_
    refine W_skip ?_
    refine thenS_n ?_
    refine W_seq ?_
    refine W_seq ?_
    refine W_region ?_
    refine WO_step 1 [0] [0, 1, 5] True ⟨[(0, .one (.e (.sl 0 0 x1.length))), (1, I (w64 (i2 - ((x1.length : Nat) : Int)))), (5, I 0)], [.row .nod x1 false]⟩ (by kernel_rfl) trivial ?_
    refine WO_nil rfl ?_
    refine thenS_n ?_
    refine W_block ?_
    refine W_loop ?_
    refine bindO_e h (fun v104 hv104 h => ?_)
    refine WL_cut (laws_szNodeS_L1_ok w X θ x1 v104 n (w64 (i2 - ((x1.length : Nat) : Int))) 0 hv104) ?_
    rcases v104 with _ | i90
    · rintro _ _ ⟨rfl, rfl⟩
      refine blockS_r ?_
      refine thenS_r ?_
      cases h
      exact ⟨[0], True, by kernel_rfl, trivial⟩
    · rintro _ _ ⟨rfl, rfl⟩
      refine blockS_y ?_
      refine thenS_n ?_
      refine W_seq ?_
      refine W_region ?_
      refine WO_step 2 [0] [4] True ⟨[(4, I i90)], [.row .nod x1 false]⟩ (by kernel_rfl) trivial ?_
      refine WO_nil rfl ?_
      refine thenS_n ?_
      refine W_ret ?_
      cases h
      exact ⟨[0], True, by kernel_rfl, trivial⟩

/- laws.szRecordS -/
def laws_szRecordS (x1 : List Rcd) (i2 : Int) : Option (Int) :=
 iteO (decide ((w64 (i2 - ((x1.length : Nat) : Int))) < 0))
 (some (-1))
 (some (w64 (i2 - ((x1.length : Nat) : Int))))

theorem laws_szRecordS_ok (x1 : List Rcd) (i2 : Int) (i5 : Int) (h : laws_szRecordS x1 i2 = some i5) : FOk EE 27 [.one (.e (.sl 0 0 x1.length)), I i2] [.row .rcd x1 false] (I i5) [.row .rcd x1 false] := by
  unfold laws_szRecordS at h
  refine FOk_of_W 12 1 Try.func27 rfl rfl (Nat.le_of_ble_eq_true rfl) rfl (fun w X θ => ?_)
  refine W_seq ?_
  refine W_region ?_
  refine WO_step 1 [0] [0, 1] True ⟨[(0, .one (.e (.sl 0 0 x1.length))), (1, I i2)], [.row .rcd x1 false]⟩ (by kernel_rfl) trivial ?_
  refine WO_nil rfl ?_
  refine thenS_n ?_
  refine W_seq ?_
  refine W_region ?_
  refine WO_step 5 [0] [1] (True ∧ (True ∧ True)) ⟨[(1, I (w64 (i2 - ((x1.length : Nat) : Int))))], [.row .rcd x1 false]⟩ (by kernel_rfl) ⟨trivial, trivial, trivial⟩ ?_
  refine WO_nil rfl ?_
  refine thenS_n ?_
  refine W_seq ?_
  refine W_seq ?_
  refine W_region ?_
  refine WO_step 2 [0] [1, 10] (True ∧ True) ⟨[(1, I (w64 (i2 - ((x1.length : Nat) : Int)))), (10, B (decide ((w64 (i2 - ((x1.length : Nat) : Int))) < 0)))], [.row .rcd x1 false]⟩ (by kernel_rfl) ⟨trivial, trivial⟩ ?_
  refine WO_nil rfl ?_
  refine thenS_n ?_
  refine iteO_e h (fun hb7 h => W_true rfl hb7 ?_) (fun hb7 h => W_false rfl hb7 ?_)
  · refine W_seq ?_
    refine W_region ?_
    refine WO_step 1 [0] [4] True ⟨[(4, I (-1))], [.row .rcd x1 false]⟩ (by kernel_rfl) trivial ?_
    refine WO_nil rfl ?_
    refine thenS_n ?_
    refine W_ret ?_
    refine thenS_r ?_
    cases h
    exact ⟨[0], True, by kernel_rfl, trivial⟩
  · refine W_sub [0] [1] (st' := ⟨[(1, I (w64 (i2 - ((x1.length : Nat) : Int))))], [.row .rcd x1 false]⟩) (by kernel_rfl) ?_
    refine W_skip ?_
    refine thenS_n ?_
    refine W_seq ?_
    refine W_region ?_
    refine WO_step 2 [0] [4] True ⟨[(4, I (w64 (i2 - ((x1.length : Nat) : Int))))], [.row .rcd x1 false]⟩ (by kernel_rfl) trivial ?_
    refine WO_nil rfl ?_
    refine thenS_n ?_
    refine W_ret ?_
    cases h
    exact ⟨[0], True, by kernel_rfl, trivial⟩

/- laws.toNode -/
def laws_toNode (x1 : Nod) : Option (Int × Str × Int) :=
 some (x1.parent, x1.name, x1.value)

theorem laws_toNode_ok (x1 : Nod) (i2 : Int) (s3 : Str) (i4 : Int) (h : laws_toNode x1 = some (i2, s3, i4)) : FOk EE 53 [AGG [cI x1.parent, cS x1.name, cI x1.value]] [] (AGG [cI i2, cS s3, cI i4]) [] := by
  unfold laws_toNode at h
  refine FOk_of_W 14 0 Try.func53 rfl rfl (Nat.le_of_ble_eq_true rfl) rfl (fun w X θ => ?_)
  refine W_seq ?_
  refine W_region ?_
  refine WO_step 2 [0, 1] [1, 2] (True ∧ (True ∧ True)) ⟨[(1, .one (.e (.p 0 0))), (2, .one (.e (.p 1 0)))], [.cells [cI x1.parent, cS x1.name, cI x1.value], .cells [cI 0, cS [], cI 0]]⟩ (by kernel_rfl) ⟨trivial, trivial, trivial⟩ ?_
  refine WO_nil rfl ?_
  refine thenS_n ?_
  refine W_seq ?_
  refine W_region ?_
  refine WO_step 1 [0, 1, 2] [1, 2, 3] (True ∧ True) ⟨[(1, .one (.e (.p 0 0))), (2, .one (.e (.p 1 0))), (3, .one (.e (.p 2 0)))], [.cells [cI x1.parent, cS x1.name, cI x1.value], .cells [cI 0, cS [], cI 0], .cells [cI 0, cS [], cI 0]]⟩ (by kernel_rfl) ⟨trivial, trivial⟩ ?_
  refine WO_nil rfl ?_
  refine thenS_n ?_
  refine W_seq ?_
  refine W_region ?_
  refine WO_step 4 [0, 1, 2] [1, 2, 3] (True ∧ (True ∧ True)) ⟨[(1, .one (.e (.p 0 0))), (2, .one (.e (.p 1 0))), (3, .one (.e (.p 2 0)))], [.cells [cI x1.parent, cS x1.name, cI x1.value], .cells [cI 0, cS [], cI 0], .cells [cI x1.parent, cS [], cI 0]]⟩ (by kernel_rfl) ⟨trivial, trivial, trivial⟩ ?_
  refine WO_nil rfl ?_
  refine thenS_n ?_
  refine W_seq ?_
  refine W_region ?_
  refine WO_step 4 [0, 1, 2] [1, 2, 3] (True ∧ (True ∧ True)) ⟨[(1, .one (.e (.p 0 0))), (2, .one (.e (.p 1 0))), (3, .one (.e (.p 2 0)))], [.cells [cI x1.parent, cS x1.name, cI x1.value], .cells [cI 0, cS [], cI 0], .cells [cI x1.parent, cS x1.name, cI 0]]⟩ (by kernel_rfl) ⟨trivial, trivial, trivial⟩ ?_
  refine WO_nil rfl ?_
  refine thenS_n ?_
  refine W_seq ?_
  refine W_region ?_
  refine WO_step 4 [1, 2] [2, 3] (True ∧ (True ∧ True)) ⟨[(2, .one (.e (.p 0 0))), (3, .one (.e (.p 1 0)))], [.cells [cI 0, cS [], cI 0], .cells [cI x1.parent, cS x1.name, cI x1.value]]⟩ (by kernel_rfl) ⟨trivial, trivial, trivial⟩ ?_
  refine WO_nil rfl ?_
  refine thenS_n ?_
  refine W_seq ?_
  refine W_region ?_
  refine WO_step 2 [0] [2] (True ∧ (True ∧ True)) ⟨[(2, .one (.e (.p 0 0)))], [.cells [cI x1.parent, cS x1.name, cI x1.value]]⟩ (by kernel_rfl) ⟨trivial, trivial, trivial⟩ ?_
  refine WO_nil rfl ?_
  refine thenS_n ?_
  refine W_ret ?_
  cases h
  exact ⟨[], True, by kernel_rfl, trivial⟩

/- laws.toNodeS -/
def laws_toNodeS_L1 (x1 : List Nod) : Nat → (List Nod) → Int → Option ((List Nod))
| 0, _, _ => none
| n + 1, x87, i88 =>
 iteO (decide (i88 < ((x1.length : Nat) : Int)))
 (guardO (0 ≤ i88 ∧ i88 < ((x1.length : Nat) : Int)) <|
 bindO (laws_toNode (x1.getD i88.toNat dnod)) fun (i119, s120, i121) =>
 guardO (0 ≤ i88 ∧ i88 < ((x87.length : Nat) : Int)) <|
 laws_toNodeS_L1 x1 n (x87.set i88.toNat (⟨i119, s120, i121⟩ : Nod)) (w64 (i88 + 1)))
 (some x87)

theorem laws_toNodeS_L1_ok (w : World) (X : Nat → Prop) (θ : List Loc) (x1 : List Nod) (x107 : (List Nod)) : ∀ (n : Nat) (x87 : List Nod) (i88 : Int), laws_toNodeS_L1 x1 n x87 i88 = some x107 → WL EE ⟨w, X, θ, 23, 1⟩ (subC [1, 1, 0, 1, 4, 4] (bodyC Try.f28)) (fun (e : Exit) (s : St) => e = .exit 0 ∧ s = ⟨[(3, .one (.e (.sl 1 0 x107.length)))], [.row .nod x1 false, .row .nod x107 true]⟩) ⟨[(0, .one (.e (.sl 0 0 x1.length))), (3, .one (.e (.sl 1 0 x87.length))), (4, I i88)], [.row .nod x1 false, .row .nod x87 true]⟩ := by
  intro n
  induction n with
  | zero => intro _ _ h; exact none_e h
  | succ n ih =>
    intro x87 i88 h
    rw [laws_toNodeS_L1] at h
    refine WL_round ?_
    refine W_seq ?_
    refine W_seq ?_
    refine W_region ?_
    refine WO_step 4 [0, 1] [0, 3, 4, 11] (True ∧ (True ∧ True)) ⟨[(0, .one (.e (.sl 0 0 x1.length))), (3, .one (.e (.sl 1 0 x87.length))), (4, I i88), (11, B (decide (i88 < ((x1.length : Nat) : Int))))], [.row .nod x1 false, .row .nod x87 true]⟩ (by kernel_rfl) ⟨trivial, trivial, trivial⟩ ?_
    refine WO_nil rfl ?_
    refine thenS_n ?_
    refine iteO_e h (fun hb110 h => W_true rfl hb110 ?_) (fun hb110 h => W_false rfl hb110 ?_)
    · refine W_sub [0, 1] [0, 3, 4] (st' := ⟨[(0, .one (.e (.sl 0 0 x1.length))), (3, .one (.e (.sl 1 0 x87.length))), (4, I i88)], [.row .nod x1 false, .row .nod x87 true]⟩) (by kernel_rfl) ?_
      refine W_skip ?_
      refine thenS_n ?_
      refine W_seq ?_
      refine W_block ?_
      refine W_region ?_
      refine guardO_e h (fun hg118 h => ?_)
      refine WO_step 6 [0, 1] [0, 3, 4, 14, 15, 19] ((0 ≤ i88 ∧ i88 < ((x1.length : Nat) : Int)) ∧ (True ∧ True)) ⟨[(0, .one (.e (.sl 0 0 x1.length))), (3, .one (.e (.sl 1 0 x87.length))), (4, I i88), (14, .one (.e (.sl 1 0 x87.length))), (15, I i88), (19, AGG [cI ((x1.getD i88.toNat dnod).parent), cS ((x1.getD i88.toNat dnod).name), cI ((x1.getD i88.toNat dnod).value)])], [.row .nod x1 false, .row .nod x87 true]⟩ (by kernel_rfl) ⟨hg118, trivial, trivial⟩ ?_
      refine bindO_e h (fun v124 hc122 h => ?_)
      obtain ⟨i119, s120, i121⟩ := v124
      refine WO_call [] Try.f53 rfl rfl rfl (by kernel_rfl) rfl rfl (by kernel_rfl) (laws_toNode_ok (x1.getD i88.toNat dnod) i119 s120 i121 hc122) (trivial) rfl ?_
      refine guardO_e h (fun hg123 h => ?_)
      refine WO_step 2 [0, 1] [0, 3, 4] ((0 ≤ i88 ∧ i88 < ((x87.length : Nat) : Int)) ∧ (True ∧ True)) ⟨[(0, .one (.e (.sl 0 0 x1.length))), (3, .one (.e (.sl 1 0 x87.length))), (4, I i88)], [.row .nod x1 false, .row .nod (x87.set i88.toNat (⟨i119, s120, i121⟩ : Nod)) true]⟩ (by kernel_rfl) ⟨hg123, trivial, trivial⟩ ?_
      refine WO_eq (st' := ⟨[(0, .one (.e (.sl 0 0 x1.length))), (3, .one (.e (.sl 1 0 ((x87.set i88.toNat (⟨i119, s120, i121⟩ : Nod)).length)))), (4, I i88)], [.row .nod x1 false, .row .nod (x87.set i88.toNat (⟨i119, s120, i121⟩ : Nod)) true]⟩) (by simp only [List.length_set]) ?_
      refine WO_nil rfl ?_
      refine blockS_n ?_
      refine thenS_n ?_
      refine W_region ?_
      refine WO_step 3 [0, 1] [0, 3, 4] (True ∧ True) ⟨[(0, .one (.e (.sl 0 0 x1.length))), (3, .one (.e (.sl 1 0 ((x87.set i88.toNat (⟨i119, s120, i121⟩ : Nod)).length)))), (4, I (w64 (i88 + 1)))], [.row .nod x1 false, .row .nod (x87.set i88.toNat (⟨i119, s120, i121⟩ : Nod)) true]⟩ (by kernel_rfl) ⟨trivial, trivial⟩ ?_
      refine WO_nil rfl ?_
      refine thenS_n ?_
      exact ih _ _ h
    · refine W_sub [0, 1] [3] (st' := ⟨[(3, .one (.e (.sl 1 0 x87.length)))], [.row .nod x1 false, .row .nod x87 true]⟩) (by kernel_rfl) ?_
      refine W_exit ?_
      refine thenS_e ?_
      refine thenS_e ?_
      cases h
      exact And.intro rfl rfl

def laws_toNodeS (n : Nat) (x1 : List Nod) : Option ((List Nod)) :=
 guardO ((((x1.length : Nat) : Int) : Int) = ((x1.length : Nat) : Int) ∧ 0 ≤ ((x1.length : Nat) : Int) ∧ ((x1.length : Nat) : Int) ≤ 1099511627776) <|
 bindO (laws_toNodeS_L1 x1 n (List.replicate (((x1.length : Nat) : Int).toNat) dnod) 0) fun x107 =>
 some x107

theorem laws_toNodeS_ok (n : Nat) (x1 : List Nod) (x63 : List Nod) (h : laws_toNodeS n x1 = some x63) : FOk EE 28 [.one (.e (.sl 0 0 x1.length))] [.row .nod x1 false] (.one (.e (.sl 1 0 x63.length))) [.row .nod x1 false, .row .nod x63 true] := by
  unfold laws_toNodeS at h
  refine FOk_of_W 23 1 Try.func28 rfl rfl (Nat.le_of_ble_eq_true rfl) rfl (fun w X θ => ?_)
  refine W_seq ?_
  refine W_region ?_
  refine WO_step 1 [0] [0] True ⟨[(0, .one (.e (.sl 0 0 x1.length)))], [.row .nod x1 false]⟩ (by kernel_rfl) trivial ?_
  refine WO_nil rfl ?_
  refine thenS_n ?_
  refine W_seq ?_
  refine W_region ?_
  refine guardO_e h (fun hg64 h => ?_)
  refine WO_step 4 [0, 1] [0, 3] (True ∧ (((((x1.length : Nat) : Int) : Int) = ((x1.length : Nat) : Int) ∧ 0 ≤ ((x1.length : Nat) : Int) ∧ ((x1.length : Nat) : Int) ≤ 1099511627776) ∧ True)) ⟨[(0, .one (.e (.sl 0 0 x1.length))), (3, .one (.e (.sl 1 0 ((List.replicate (((x1.length : Nat) : Int).toNat) dnod).length))))], [.row .nod x1 false, .row .nod (List.replicate (((x1.length : Nat) : Int).toNat) dnod) true]⟩ (by kernel_rfl) ⟨trivial, hg64, trivial⟩ ?_
  refine WO_nil rfl ?_
  refine thenS_n ?_
  refine W_seq ?_
  refine W_seq ?_
  refine W_region ?_
  refine WO_step 1 [0, 1] [0, 3, 4] True ⟨[(0, .one (.e (.sl 0 0 x1.length))), (3, .one (.e (.sl 1 0 ((List.replicate (((x1.length : Nat) : Int).toNat) dnod).length)))), (4, I 0)], [.row .nod x1 false, .row .nod (List.replicate (((x1.length : Nat) : Int).toNat) dnod) true]⟩ (by kernel_rfl) trivial ?_
  refine WO_nil rfl ?_
  refine thenS_n ?_
  refine W_block ?_
  refine W_loop ?_
  refine bindO_e h (fun x107 hx107 h => ?_)
  refine WL_cut (laws_toNodeS_L1_ok w X θ x1 x107 n (List.replicate (((x1.length : Nat) : Int).toNat) dnod) 0 hx107) ?_
  rintro _ _ ⟨rfl, rfl⟩
  refine blockS_y ?_
  refine thenS_n ?_
  refine W_seq ?_
  refine W_region ?_
  refine WO_step 2 [0, 1] [2] True ⟨[(2, .one (.e (.sl 1 0 x107.length)))], [.row .nod x1 false, .row .nod x107 true]⟩ (by kernel_rfl) trivial ?_
  refine WO_nil rfl ?_
  refine thenS_n ?_
  refine W_ret ?_
  cases h
  exact ⟨[0, 1], True, by kernel_rfl, trivial⟩

/- laws.toRecord -/
def laws_toRecord (x1 : Rcd) : Option (Int × Int × Int × Bool) :=
 some (x1.who, x1.node, x1.value, x1.fin)

theorem laws_toRecord_ok (x1 : Rcd) (i2 : Int) (i3 : Int) (i4 : Int) (b5 : Bool) (h : laws_toRecord x1 = some (i2, i3, i4, b5)) : FOk EE 54 [AGG [cI x1.who, cI x1.node, cI x1.value, cB x1.fin]] [] (AGG [cI i2, cI i3, cI i4, cB b5]) [] := by
  unfold laws_toRecord at h
  refine FOk_of_W 17 0 Try.func54 rfl rfl (Nat.le_of_ble_eq_true rfl) rfl (fun w X θ => ?_)
  refine W_seq ?_
  refine W_region ?_
  refine WO_step 2 [0, 1] [1, 2] (True ∧ (True ∧ True)) ⟨[(1, .one (.e (.p 0 0))), (2, .one (.e (.p 1 0)))], [.cells [cI x1.who, cI x1.node, cI x1.value, cB x1.fin], .cells [cI 0, cI 0, cI 0, cB false]]⟩ (by kernel_rfl) ⟨trivial, trivial, trivial⟩ ?_
  refine WO_nil rfl ?_
  refine thenS_n ?_
  refine W_seq ?_
  refine W_region ?_
  refine WO_step 1 [0, 1, 2] [1, 2, 3] (True ∧ True) ⟨[(1, .one (.e (.p 0 0))), (2, .one (.e (.p 1 0))), (3, .one (.e (.p 2 0)))], [.cells [cI x1.who, cI x1.node, cI x1.value, cB x1.fin], .cells [cI 0, cI 0, cI 0, cB false], .cells [cI 0, cI 0, cI 0, cB false]]⟩ (by kernel_rfl) ⟨trivial, trivial⟩ ?_
  refine WO_nil rfl ?_
  refine thenS_n ?_
  refine W_seq ?_
  refine W_region ?_
  refine WO_step 4 [0, 1, 2] [1, 2, 3] (True ∧ (True ∧ True)) ⟨[(1, .one (.e (.p 0 0))), (2, .one (.e (.p 1 0))), (3, .one (.e (.p 2 0)))], [.cells [cI x1.who, cI x1.node, cI x1.value, cB x1.fin], .cells [cI 0, cI 0, cI 0, cB false], .cells [cI x1.who, cI 0, cI 0, cB false]]⟩ (by kernel_rfl) ⟨trivial, trivial, trivial⟩ ?_
  refine WO_nil rfl ?_
  refine thenS_n ?_
  refine W_seq ?_
  refine W_region ?_
  refine WO_step 4 [0, 1, 2] [1, 2, 3] (True ∧ (True ∧ True)) ⟨[(1, .one (.e (.p 0 0))), (2, .one (.e (.p 1 0))), (3, .one (.e (.p 2 0)))], [.cells [cI x1.who, cI x1.node, cI x1.value, cB x1.fin], .cells [cI 0, cI 0, cI 0, cB false], .cells [cI x1.who, cI x1.node, cI 0, cB false]]⟩ (by kernel_rfl) ⟨trivial, trivial, trivial⟩ ?_
  refine WO_nil rfl ?_
  refine thenS_n ?_
  refine W_seq ?_
  refine W_region ?_
  refine WO_step 4 [0, 1, 2] [1, 2, 3] (True ∧ (True ∧ True)) ⟨[(1, .one (.e (.p 0 0))), (2, .one (.e (.p 1 0))), (3, .one (.e (.p 2 0)))], [.cells [cI x1.who, cI x1.node, cI x1.value, cB x1.fin], .cells [cI 0, cI 0, cI 0, cB false], .cells [cI x1.who, cI x1.node, cI x1.value, cB false]]⟩ (by kernel_rfl) ⟨trivial, trivial, trivial⟩ ?_
  refine WO_nil rfl ?_
  refine thenS_n ?_
  refine W_seq ?_
  refine W_region ?_
  refine WO_step 4 [1, 2] [2, 3] (True ∧ (True ∧ True)) ⟨[(2, .one (.e (.p 0 0))), (3, .one (.e (.p 1 0)))], [.cells [cI 0, cI 0, cI 0, cB false], .cells [cI x1.who, cI x1.node, cI x1.value, cB x1.fin]]⟩ (by kernel_rfl) ⟨trivial, trivial, trivial⟩ ?_
  refine WO_nil rfl ?_
  refine thenS_n ?_
  refine W_seq ?_
  refine W_region ?_
  refine WO_step 2 [0] [2] (True ∧ (True ∧ True)) ⟨[(2, .one (.e (.p 0 0)))], [.cells [cI x1.who, cI x1.node, cI x1.value, cB x1.fin]]⟩ (by kernel_rfl) ⟨trivial, trivial, trivial⟩ ?_
  refine WO_nil rfl ?_
  refine thenS_n ?_
  refine W_ret ?_
  cases h
  exact ⟨[], True, by kernel_rfl, trivial⟩

/- laws.toRecordS -/
def laws_toRecordS_L1 (x1 : List Rcd) : Nat → (List Rcd) → Int → Option ((List Rcd))
| 0, _, _ => none
| n + 1, x95, i96 =>
 iteO (decide (i96 < ((x1.length : Nat) : Int)))
 (guardO (0 ≤ i96 ∧ i96 < ((x1.length : Nat) : Int)) <|
 bindO (laws_toRecord (x1.getD i96.toNat drcd)) fun (i130, i131, i132, b133) =>
 guardO (0 ≤ i96 ∧ i96 < ((x95.length : Nat) : Int)) <|
 laws_toRecordS_L1 x1 n (x95.set i96.toNat (⟨i130, i131, i132, b133⟩ : Rcd)) (w64 (i96 + 1)))
 (some x95)

theorem laws_toRecordS_L1_ok (w : World) (X : Nat → Prop) (θ : List Loc) (x1 : List Rcd) (x117 : (List Rcd)) : ∀ (n : Nat) (x95 : List Rcd) (i96 : Int), laws_toRecordS_L1 x1 n x95 i96 = some x117 → WL EE ⟨w, X, θ, 23, 1⟩ (subC [1, 1, 0, 1, 4, 4] (bodyC Try.f29)) (fun (e : Exit) (s : St) => e = .exit 0 ∧ s = ⟨[(3, .one (.e (.sl 1 0 x117.length)))], [.row .rcd x1 false, .row .rcd x117 true]⟩) ⟨[(0, .one (.e (.sl 0 0 x1.length))), (3, .one (.e (.sl 1 0 x95.length))), (4, I i96)], [.row .rcd x1 false, .row .rcd x95 true]⟩ := by
  intro n
  induction n with
  | zero => intro _ _ h; exact none_e h
  | succ n ih =>
    intro x95 i96 h
    rw [laws_toRecordS_L1] at h
    refine WL_round ?_
    refine W_seq ?_
    refine W_seq ?_
    refine W_region ?_
    refine WO_step 4 [0, 1] [0, 3, 4, 11] (True ∧ (True ∧ True)) ⟨[(0, .one (.e (.sl 0 0 x1.length))), (3, .one (.e (.sl 1 0 x95.length))), (4, I i96), (11, B (decide (i96 < ((x1.length : Nat) : Int))))], [.row .rcd x1 false, .row .rcd x95 true]⟩ (by kernel_rfl) ⟨trivial, trivial, trivial⟩ ?_
    refine WO_nil rfl ?_
    refine thenS_n ?_
    refine iteO_e h (fun hb120 h => W_true rfl hb120 ?_) (fun hb120 h => W_false rfl hb120 ?_)
    · refine W_sub [0, 1] [0, 3, 4] (st' := ⟨[(0, .one (.e (.sl 0 0 x1.length))), (3, .one (.e (.sl 1 0 x95.length))), (4, I i96)], [.row .rcd x1 false, .row .rcd x95 true]⟩) (by kernel_rfl) ?_
      refine W_skip ?_
      refine thenS_n ?_
      refine W_seq ?_
      refine W_block ?_
      refine W_region ?_
      refine guardO_e h (fun hg129 h => ?_)
      refine WO_step 6 [0, 1] [0, 3, 4, 14, 15, 19] ((0 ≤ i96 ∧ i96 < ((x1.length : Nat) : Int)) ∧ (True ∧ True)) ⟨[(0, .one (.e (.sl 0 0 x1.length))), (3, .one (.e (.sl 1 0 x95.length))), (4, I i96), (14, .one (.e (.sl 1 0 x95.length))), (15, I i96), (19, AGG [cI ((x1.getD i96.toNat drcd).who), cI ((x1.getD i96.toNat drcd).node), cI ((x1.getD i96.toNat drcd).value), cB ((x1.getD i96.toNat drcd).fin)])], [.row .rcd x1 false, .row .rcd x95 true]⟩ (by kernel_rfl) ⟨hg129, trivial, trivial⟩ ?_
      refine bindO_e h (fun v136 hc134 h => ?_)
      obtain ⟨i130, i131, i132, b133⟩ := v136
      refine WO_call [] Try.f54 rfl rfl rfl (by kernel_rfl) rfl rfl (by kernel_rfl) (laws_toRecord_ok (x1.getD i96.toNat drcd) i130 i131 i132 b133 hc134) (trivial) rfl ?_
      refine guardO_e h (fun hg135 h => ?_)
      refine WO_step 2 [0, 1] [0, 3, 4] ((0 ≤ i96 ∧ i96 < ((x95.length : Nat) : Int)) ∧ (True ∧ True)) ⟨[(0, .one (.e (.sl 0 0 x1.length))), (3, .one (.e (.sl 1 0 x95.length))), (4, I i96)], [.row .rcd x1 false, .row .rcd (x95.set i96.toNat (⟨i130, i131, i132, b133⟩ : Rcd)) true]⟩ (by kernel_rfl) ⟨hg135, trivial, trivial⟩ ?_
      refine WO_eq (st' := ⟨[(0, .one (.e (.sl 0 0 x1.length))), (3, .one (.e (.sl 1 0 ((x95.set i96.toNat (⟨i130, i131, i132, b133⟩ : Rcd)).length)))), (4, I i96)], [.row .rcd x1 false, .row .rcd (x95.set i96.toNat (⟨i130, i131, i132, b133⟩ : Rcd)) true]⟩) (by simp only [List.length_set]) ?_
      refine WO_nil rfl ?_
      refine blockS_n ?_
      refine thenS_n ?_
      refine W_region ?_
      refine WO_step 3 [0, 1] [0, 3, 4] (True ∧ True) ⟨[(0, .one (.e (.sl 0 0 x1.length))), (3, .one (.e (.sl 1 0 ((x95.set i96.toNat (⟨i130, i131, i132, b133⟩ : Rcd)).length)))), (4, I (w64 (i96 + 1)))], [.row .rcd x1 false, .row .rcd (x95.set i96.toNat (⟨i130, i131, i132, b133⟩ : Rcd)) true]⟩ (by kernel_rfl) ⟨trivial, trivial⟩ ?_
      refine WO_nil rfl ?_
      refine thenS_n ?_
      exact ih _ _ h
    · refine W_sub [0, 1] [3] (st' := ⟨[(3, .one (.e (.sl 1 0 x95.length)))], [.row .rcd x1 false, .row .rcd x95 true]⟩) (by kernel_rfl) ?_
      refine W_exit ?_
      refine thenS_e ?_
      refine thenS_e ?_
      cases h
      exact And.intro rfl rfl

def laws_toRecordS (n : Nat) (x1 : List Rcd) : Option ((List Rcd)) :=
 guardO ((((x1.length : Nat) : Int) : Int) = ((x1.length : Nat) : Int) ∧ 0 ≤ ((x1.length : Nat) : Int) ∧ ((x1.length : Nat) : Int) ≤ 1099511627776) <|
 bindO (laws_toRecordS_L1 x1 n (List.replicate (((x1.length : Nat) : Int).toNat) drcd) 0) fun x117 =>
 some x117

theorem laws_toRecordS_ok (n : Nat) (x1 : List Rcd) (x69 : List Rcd) (h : laws_toRecordS n x1 = some x69) : FOk EE 29 [.one (.e (.sl 0 0 x1.length))] [.row .rcd x1 false] (.one (.e (.sl 1 0 x69.length))) [.row .rcd x1 false, .row .rcd x69 true] := by
  unfold laws_toRecordS at h
  refine FOk_of_W 23 1 Try.func29 rfl rfl (Nat.le_of_ble_eq_true rfl) rfl (fun w X θ => ?_)
  refine W_seq ?_
  refine W_region ?_
  refine WO_step 1 [0] [0] True ⟨[(0, .one (.e (.sl 0 0 x1.length)))], [.row .rcd x1 false]⟩ (by kernel_rfl) trivial ?_
  refine WO_nil rfl ?_
  refine thenS_n ?_
  refine W_seq ?_
  refine W_region ?_
  refine guardO_e h (fun hg70 h => ?_)
  refine WO_step 4 [0, 1] [0, 3] (True ∧ (((((x1.length : Nat) : Int) : Int) = ((x1.length : Nat) : Int) ∧ 0 ≤ ((x1.length : Nat) : Int) ∧ ((x1.length : Nat) : Int) ≤ 1099511627776) ∧ True)) ⟨[(0, .one (.e (.sl 0 0 x1.length))), (3, .one (.e (.sl 1 0 ((List.replicate (((x1.length : Nat) : Int).toNat) drcd).length))))], [.row .rcd x1 false, .row .rcd (List.replicate (((x1.length : Nat) : Int).toNat) drcd) true]⟩ (by kernel_rfl) ⟨trivial, hg70, trivial⟩ ?_
  refine WO_nil rfl ?_
  refine thenS_n ?_
  refine W_seq ?_
  refine W_seq ?_
  refine W_region ?_
  refine WO_step 1 [0, 1] [0, 3, 4] True ⟨[(0, .one (.e (.sl 0 0 x1.length))), (3, .one (.e (.sl 1 0 ((List.replicate (((x1.length : Nat) : Int).toNat) drcd).length)))), (4, I 0)], [.row .rcd x1 false, .row .rcd (List.replicate (((x1.length : Nat) : Int).toNat) drcd) true]⟩ (by kernel_rfl) trivial ?_
  refine WO_nil rfl ?_
  refine thenS_n ?_
  refine W_block ?_
  refine W_loop ?_
  refine bindO_e h (fun x117 hx117 h => ?_)
  refine WL_cut (laws_toRecordS_L1_ok w X θ x1 x117 n (List.replicate (((x1.length : Nat) : Int).toNat) drcd) 0 hx117) ?_
  rintro _ _ ⟨rfl, rfl⟩
  refine blockS_y ?_
  refine thenS_n ?_
  refine W_seq ?_
  refine W_region ?_
  refine WO_step 2 [0, 1] [2] True ⟨[(2, .one (.e (.sl 1 0 x117.length)))], [.row .rcd x1 false, .row .rcd x117 true]⟩ (by kernel_rfl) trivial ?_
  refine WO_nil rfl ?_
  refine thenS_n ?_
  refine W_ret ?_
  cases h
  exact ⟨[0, 1], True, by kernel_rfl, trivial⟩

/- spec.inRange -/
def spec_inRange (i1 : Int) (i2 : Int) (i3 : Int) : Bool :=
((decide (i2 ≤ i1)) && (decide (i1 ≤ i3)))

theorem spec_inRange_ok (i1 : Int) (i2 : Int) (i3 : Int) : FOk EE 62 [I i1, I i2, I i3] [] (B (spec_inRange i1 i2 i3)) [] := by
  refine FOk_of_W 15 0 Try.func62 rfl rfl (Nat.le_of_ble_eq_true rfl) rfl (fun w X θ => ?_)
  refine W_seq ?_
  refine W_region ?_
  refine WO_step 1 [] [0, 1, 2] True ⟨[(0, I i1), (1, I i2), (2, I i3)], []⟩ (by kernel_rfl) trivial ?_
  refine WO_nil rfl ?_
  refine thenS_n ?_
  refine W_seq ?_
  refine W_region ?_
  refine WO_step 4 [] [0, 2, 10] (True ∧ True) ⟨[(0, I i1), (2, I i3), (10, B (decide (i2 ≤ i1)))], []⟩ (by kernel_rfl) ⟨trivial, trivial⟩ ?_
  refine WO_thru ⟨[(6, B ((decide (i2 ≤ i1)) && (decide (i1 ≤ i3))))], []⟩ ?_ ?_
  · refine WO_if 10 rfl (fun hb10 => ?_) (fun hb10 => ?_)
    · refine WO_step 5 [] [6] (True ∧ True) ⟨[(6, B (decide (i1 ≤ i3)))], []⟩ (by kernel_rfl) ⟨trivial, trivial⟩ ?_
      exact WO_nil rfl ⟨rfl, by first | rfl | (rw [hb10]; first | done | rfl)⟩
    · refine WO_step 5 [] [6] True ⟨[(6, B false)], []⟩ (by kernel_rfl) trivial ?_
      exact WO_nil rfl ⟨rfl, by first | rfl | (rw [hb10]; first | done | rfl)⟩
  · refine thenS_n ?_
    refine W_ret ?_
    exact ⟨[], True, by kernel_rfl, trivial⟩

/- spec.validName -/
def spec_validName_L1 (s1 : Str) : Nat → Int → Option ((Unit) ⊕ (Unit))
| 0, _ => none
| n + 1, i44 =>
 iteO (decide (i44 < ((s1.length : Nat) : Int)))
 (guardO (0 ≤ i44 ∧ i44 < ((s1.length : Nat) : Int)) <|
 iteO (!(spec_inRange (w64 ((s1.getD i44.toNat 0).toNat : Int)) 97 122))
 (some (.inl ()))
 (spec_validName_L1 s1 n (w64 (i44 + 1))))
 (some (.inr ()))

theorem spec_validName_L1_ok (w : World) (X : Nat → Prop) (θ : List Loc) (s1 : Str) (v : (Unit) ⊕ (Unit)) : ∀ (n : Nat) (i44 : Int), spec_validName_L1 s1 n i44 = some v → WL EE ⟨w, X, θ, 19, 0⟩ (subC [1, 0, 1, 4, 4] (bodyC Try.f70)) (fun (e : Exit) (s : St) => (match v with | (.inl _) => e = .ret ∧ s = ⟨[(2, B false)], []⟩ | (.inr _) => e = .exit 0 ∧ s = ⟨[(0, S s1)], []⟩ : Prop)) ⟨[(0, S s1), (3, I i44)], []⟩ := by
  intro n
  induction n with
  | zero => intro _ h; exact none_e h
  | succ n ih =>
    intro i44 h
    rw [spec_validName_L1] at h
    refine WL_round ?_
    refine W_seq ?_
    refine W_seq ?_
    refine W_region ?_
    refine WO_step 4 [] [0, 3, 7] (True ∧ (True ∧ True)) ⟨[(0, S s1), (3, I i44), (7, B (decide (i44 < ((s1.length : Nat) : Int))))], []⟩ (by kernel_rfl) ⟨trivial, trivial, trivial⟩ ?_
    refine WO_nil rfl ?_
    refine thenS_n ?_
    refine iteO_e h (fun hb56 h => W_true rfl hb56 ?_) (fun hb56 h => W_false rfl hb56 ?_)
    · refine W_sub [] [0, 3] (st' := ⟨[(0, S s1), (3, I i44)], []⟩) (by kernel_rfl) ?_
      refine W_skip ?_
      refine thenS_n ?_
      refine W_seq ?_
      refine W_block ?_
      refine W_seq ?_
      refine W_region ?_
      refine guardO_e h (fun hg60 h => ?_)
      refine WO_step 4 [] [0, 3, 13] ((0 ≤ i44 ∧ i44 < ((s1.length : Nat) : Int)) ∧ (True ∧ True)) ⟨[(0, S s1), (3, I i44), (13, I (w64 ((s1.getD i44.toNat 0).toNat : Int)))], []⟩ (by kernel_rfl) ⟨hg60, trivial, trivial⟩ ?_
      refine WO_call [] Try.f62 rfl rfl rfl (by kernel_rfl) rfl rfl (by kernel_rfl) (spec_inRange_ok (w64 ((s1.getD i44.toNat 0).toNat : Int)) 97 122) (trivial) rfl ?_
      refine WO_step 1 [] [0, 3, 15] True ⟨[(0, S s1), (3, I i44), (15, B (!(spec_inRange (w64 ((s1.getD i44.toNat 0).toNat : Int)) 97 122)))], []⟩ (by kernel_rfl) trivial ?_
      refine WO_nil rfl ?_
      refine thenS_n ?_
      refine iteO_e h (fun hb62 h => W_true rfl hb62 ?_) (fun hb62 h => W_false rfl hb62 ?_)
      · refine W_seq ?_
        refine W_region ?_
        refine WO_step 1 [] [2] True ⟨[(2, B false)], []⟩ (by kernel_rfl) trivial ?_
        refine WO_nil rfl ?_
        refine thenS_n ?_
        refine W_ret ?_
        refine blockS_r ?_
        refine thenS_r ?_
        refine thenS_r ?_
        cases h
        exact And.intro rfl rfl
      · refine W_sub [] [0, 3] (st' := ⟨[(0, S s1), (3, I i44)], []⟩) (by kernel_rfl) ?_
        refine W_skip ?_
        refine blockS_n ?_
        refine thenS_n ?_
        refine W_region ?_
        refine WO_step 3 [] [0, 3] (True ∧ True) ⟨[(0, S s1), (3, I (w64 (i44 + 1)))], []⟩ (by kernel_rfl) ⟨trivial, trivial⟩ ?_
        refine WO_nil rfl ?_
        refine thenS_n ?_
        exact ih _ h
    · refine W_sub [] [0] (st' := ⟨[(0, S s1)], []⟩) (by kernel_rfl) ?_
      refine W_exit ?_
      refine thenS_e ?_
      refine thenS_e ?_
      cases h
      exact And.intro rfl rfl

def spec_validName (n : Nat) (s1 : Str) : Option (Bool) :=
 bindO (spec_validName_L1 s1 n 0) fun v63 =>
 match v63 with
 | (.inl _) => (some false)
 | (.inr _) => (some (spec_inRange ((s1.length : Nat) : Int) 1 4))


theorem spec_validName_ok (n : Nat) (s1 : Str) (b32 : Bool) (h : spec_validName n s1 = some b32) : FOk EE 70 [S s1] [] (B b32) [] := by
  unfold spec_validName at h
  refine FOk_of_W 19 0 Try.func70 rfl rfl (Nat.le_of_ble_eq_true rfl) rfl (fun w X θ => ?_)
  refine W_seq ?_
  refine W_region ?_
  refine WO_step 1 [] [0] True ⟨[(0, S s1)], []⟩ (by kernel_rfl) trivial ?_
  refine WO_nil rfl ?_
  refine thenS_n ?_
  refine W_seq ?_
  refine W_seq ?_
  refine W_region ?_
  refine WO_step 1 [] [0, 3] True ⟨[(0, S s1), (3, I 0)], []⟩ (by kernel_rfl) trivial ?_
  refine WO_nil rfl ?_
  refine thenS_n ?_
  refine W_block ?_
  refine W_loop ?_
  refine bindO_e h (fun v63 hv63 h => ?_)
  refine WL_cut (spec_validName_L1_ok w X θ s1 v63 n 0 hv63) ?_
  rcases v63 with _ | _
  · rintro _ _ ⟨rfl, rfl⟩
    refine blockS_r ?_
    refine thenS_r ?_
    cases h
    exact ⟨[], True, by kernel_rfl, trivial⟩
  · rintro _ _ ⟨rfl, rfl⟩
    refine blockS_y ?_
    refine thenS_n ?_
    refine W_seq ?_
    refine W_region ?_
    refine WO_step 2 [] [17] (True ∧ True) ⟨[(17, I ((s1.length : Nat) : Int))], []⟩ (by kernel_rfl) ⟨trivial, trivial⟩ ?_
    refine WO_call [] Try.f62 rfl rfl rfl (by kernel_rfl) rfl rfl (by kernel_rfl) (spec_inRange_ok ((s1.length : Nat) : Int) 1 4) (trivial) rfl ?_
    refine WO_step 1 [] [2] True ⟨[(2, B (spec_inRange ((s1.length : Nat) : Int) 1 4))], []⟩ (by kernel_rfl) trivial ?_
    refine WO_nil rfl ?_
    refine thenS_n ?_
    refine W_ret ?_
    cases h
    exact ⟨[], True, by kernel_rfl, trivial⟩

/- spec.kid -/
def spec_kid_L1 (x1 : List Nod) (i2 : Int) (s3 : Str) : Nat → Int → Option ((Int) ⊕ (Unit))
| 0, _ => none
| n + 1, i97 =>
 iteO (decide (i97 < ((x1.length : Nat) : Int)))
 (guardO (0 ≤ i97 ∧ i97 < ((x1.length : Nat) : Int)) <|
 bindO (iteO (decide (((x1.getD i97.toNat dnod).parent) = i2))
 (guardO (0 ≤ i97 ∧ i97 < ((x1.length : Nat) : Int)) <|
 some (decide (((x1.getD i97.toNat dnod).name) = s3)))
 (some false)) fun b135 =>
 iteO b135
 (some (.inl i97))
 (spec_kid_L1 x1 i2 s3 n (w64 (i97 + 1))))
 (some (.inr ()))

theorem spec_kid_L1_ok (w : World) (X : Nat → Prop) (θ : List Loc) (x1 : List Nod) (i2 : Int) (s3 : Str) (v : (Int) ⊕ (Unit)) : ∀ (n : Nat) (i97 : Int), spec_kid_L1 x1 i2 s3 n i97 = some v → WL EE ⟨w, X, θ, 31, 1⟩ (subC [1, 0, 1, 4, 4] (bodyC Try.f71)) (fun (e : Exit) (s : St) => (match v with | (.inl i119) => e = .ret ∧ s = ⟨[(6, I i119)], [.row .nod x1 false]⟩ | (.inr _) => e = .exit 0 ∧ s = ⟨[], [.row .nod x1 false]⟩ : Prop)) ⟨[(0, .one (.e (.sl 0 0 x1.length))), (1, I i2), (2, S s3), (7, I i97)], [.row .nod x1 false]⟩ := by
  intro n
  induction n with
  | zero => intro _ h; exact none_e h
  | succ n ih =>
    intro i97 h
    rw [spec_kid_L1] at h
    refine WL_round ?_
    refine W_seq ?_
    refine W_seq ?_
    refine W_region ?_
    refine WO_step 4 [0] [0, 1, 2, 7, 11] (True ∧ (True ∧ True)) ⟨[(0, .one (.e (.sl 0 0 x1.length))), (1, I i2), (2, S s3), (7, I i97), (11, B (decide (i97 < ((x1.length : Nat) : Int))))], [.row .nod x1 false]⟩ (by kernel_rfl) ⟨trivial, trivial, trivial⟩ ?_
    refine WO_nil rfl ?_
    refine thenS_n ?_
    refine iteO_e h (fun hb122 h => W_true rfl hb122 ?_) (fun hb122 h => W_false rfl hb122 ?_)
    · refine W_sub [0] [0, 1, 2, 7] (st' := ⟨[(0, .one (.e (.sl 0 0 x1.length))), (1, I i2), (2, S s3), (7, I i97)], [.row .nod x1 false]⟩) (by kernel_rfl) ?_
      refine W_skip ?_
      refine thenS_n ?_
      refine W_seq ?_
      refine W_block ?_
      refine W_seq ?_
      refine W_region ?_
      refine guardO_e h (fun hg132 h => ?_)
      refine WO_step 8 [0] [0, 1, 2, 7, 21] ((0 ≤ i97 ∧ i97 < ((x1.length : Nat) : Int)) ∧ (True ∧ (True ∧ True))) ⟨[(0, .one (.e (.sl 0 0 x1.length))), (1, I i2), (2, S s3), (7, I i97), (21, B (decide (((x1.getD i97.toNat dnod).parent) = i2)))], [.row .nod x1 false]⟩ (by kernel_rfl) ⟨hg132, trivial, trivial, trivial⟩ ?_
      refine bindO_e h (fun b135 hv136 h => ?_)
      refine WO_thru ⟨[(0, .one (.e (.sl 0 0 x1.length))), (1, I i2), (2, S s3), (7, I i97), (29, B b135)], [.row .nod x1 false]⟩ ?_ ?_
      · refine iteO_e hv136 (fun hb137 hv136 => WO_known 21 true rfl hb137 ?_) (fun hb137 hv136 => WO_known 21 false rfl hb137 ?_)
        · refine guardO_e hv136 (fun hg138 hv136 => ?_)
          refine WO_step 8 [0] [0, 1, 2, 7, 29] ((0 ≤ i97 ∧ i97 < ((x1.length : Nat) : Int)) ∧ (True ∧ (True ∧ True))) ⟨[(0, .one (.e (.sl 0 0 x1.length))), (1, I i2), (2, S s3), (7, I i97), (29, B (decide (((x1.getD i97.toNat dnod).name) = s3)))], [.row .nod x1 false]⟩ (by kernel_rfl) ⟨hg138, trivial, trivial, trivial⟩ ?_
          cases hv136
          exact WO_nil rfl ⟨rfl, rfl⟩
        · refine WO_step 8 [0] [0, 1, 2, 7, 29] True ⟨[(0, .one (.e (.sl 0 0 x1.length))), (1, I i2), (2, S s3), (7, I i97), (29, B false)], [.row .nod x1 false]⟩ (by kernel_rfl) trivial ?_
          cases hv136
          exact WO_nil rfl ⟨rfl, rfl⟩
      · refine thenS_n ?_
        refine iteO_e h (fun hb140 h => W_true rfl hb140 ?_) (fun hb140 h => W_false rfl hb140 ?_)
        · refine W_seq ?_
          refine W_region ?_
          refine WO_step 2 [0] [6] True ⟨[(6, I i97)], [.row .nod x1 false]⟩ (by kernel_rfl) trivial ?_
          refine WO_nil rfl ?_
          refine thenS_n ?_
          refine W_ret ?_
          refine blockS_r ?_
          refine thenS_r ?_
          refine thenS_r ?_
          cases h
          exact And.intro rfl rfl
        · refine W_sub [0] [0, 1, 2, 7] (st' := ⟨[(0, .one (.e (.sl 0 0 x1.length))), (1, I i2), (2, S s3), (7, I i97)], [.row .nod x1 false]⟩) (by kernel_rfl) ?_
          refine W_skip ?_
          refine blockS_n ?_
          refine thenS_n ?_
          refine W_region ?_
          refine WO_step 3 [0] [0, 1, 2, 7] (True ∧ True) ⟨[(0, .one (.e (.sl 0 0 x1.length))), (1, I i2), (2, S s3), (7, I (w64 (i97 + 1)))], [.row .nod x1 false]⟩ (by kernel_rfl) ⟨trivial, trivial⟩ ?_
          refine WO_nil rfl ?_
          refine thenS_n ?_
          exact ih _ h
    · refine W_sub [0] [] (st' := ⟨[], [.row .nod x1 false]⟩) (by kernel_rfl) ?_
      refine W_exit ?_
      refine thenS_e ?_
      refine thenS_e ?_
      cases h
      exact And.intro rfl rfl

def spec_kid (n : Nat) (x1 : List Nod) (i2 : Int) (s3 : Str) : Option (Int) :=
 bindO (spec_kid_L1 x1 i2 s3 n 1) fun v141 =>
 match v141 with
 | (.inl i119) => (some i119)
 | (.inr _) => (some (-1))


theorem spec_kid_ok (n : Nat) (x1 : List Nod) (i2 : Int) (s3 : Str) (i72 : Int) (h : spec_kid n x1 i2 s3 = some i72) : FOk EE 71 [.one (.e (.sl 0 0 x1.length)), I i2, S s3] [.row .nod x1 false] (I i72) [.row .nod x1 false] := by
  unfold spec_kid at h
  refine FOk_of_W 31 1 Try.func71 rfl rfl (Nat.le_of_ble_eq_true rfl) rfl (fun w X θ => ?_)
  refine W_seq ?_
  refine W_region ?_
  refine WO_step 1 [0] [0, 1, 2] True ⟨[(0, .one (.e (.sl 0 0 x1.length))), (1, I i2), (2, S s3)], [.row .nod x1 false]⟩ (by kernel_rfl) trivial ?_
  refine WO_nil rfl ?_
  refine thenS_n ?_
  refine W_seq ?_
  refine W_seq ?_
  refine W_region ?_
  refine WO_step 1 [0] [0, 1, 2, 7] True ⟨[(0, .one (.e (.sl 0 0 x1.length))), (1, I i2), (2, S s3), (7, I 1)], [.row .nod x1 false]⟩ (by kernel_rfl) trivial ?_
  refine WO_nil rfl ?_
  refine thenS_n ?_
  refine W_block ?_
  refine W_loop ?_
  refine bindO_e h (fun v141 hv141 h => ?_)
  refine WL_cut (spec_kid_L1_ok w X θ x1 i2 s3 v141 n 1 hv141) ?_
  rcases v141 with i119 | _
  · rintro _ _ ⟨rfl, rfl⟩
    refine blockS_r ?_
    refine thenS_r ?_
    cases h
    exact ⟨[0], True, by kernel_rfl, trivial⟩
  · rintro _ _ ⟨rfl, rfl⟩
    refine blockS_y ?_
    refine thenS_n ?_
    refine W_seq ?_
    refine W_region ?_
    refine WO_step 1 [0] [6] True ⟨[(6, I (-1))], [.row .nod x1 false]⟩ (by kernel_rfl) trivial ?_
    refine WO_nil rfl ?_
    refine thenS_n ?_
    refine W_ret ?_
    cases h
    exact ⟨[0], True, by kernel_rfl, trivial⟩

/- spec.depth -/
def spec_depth_L1 (x1 : List Nod) : Nat → Int → Int → Option (Int)
| 0, _, _ => none
| n + 1, i42, i43 =>
 guardO (0 ≤ i42 ∧ i42 < ((x1.length : Nat) : Int)) <|
 iteO (decide (0 ≤ ((x1.getD i42.toNat dnod).parent)))
 (guardO (0 ≤ i42 ∧ i42 < ((x1.length : Nat) : Int)) <|
 spec_depth_L1 x1 n ((x1.getD i42.toNat dnod).parent) (w64 (i43 + 1)))
 (some i43)

theorem spec_depth_L1_ok (w : World) (X : Nat → Prop) (θ : List Loc) (x1 : List Nod) (i51 : Int) : ∀ (n : Nat) (i42 : Int) (i43 : Int), spec_depth_L1 x1 n i42 i43 = some i51 → WL EE ⟨w, X, θ, 20, 1⟩ (subC [1, 1, 0, 4, 4] (bodyC Try.f72)) (fun (e : Exit) (s : St) => e = .exit 0 ∧ s = ⟨[(5, I i51)], [.row .nod x1 false]⟩) ⟨[(0, .one (.e (.sl 0 0 x1.length))), (1, I i42), (5, I i43)], [.row .nod x1 false]⟩ := by
  intro n
  induction n with
  | zero => intro _ _ h; exact none_e h
  | succ n ih =>
    intro i42 i43 h
    rw [spec_depth_L1] at h
    refine WL_round ?_
    refine W_seq ?_
    refine W_seq ?_
    refine W_region ?_
    refine guardO_e h (fun hg53 h => ?_)
    refine WO_step 6 [0] [0, 1, 5, 11] ((0 ≤ i42 ∧ i42 < ((x1.length : Nat) : Int)) ∧ (True ∧ (True ∧ True))) ⟨[(0, .one (.e (.sl 0 0 x1.length))), (1, I i42), (5, I i43), (11, B (decide (0 ≤ ((x1.getD i42.toNat dnod).parent))))], [.row .nod x1 false]⟩ (by kernel_rfl) ⟨hg53, trivial, trivial, trivial⟩ ?_
    refine WO_nil rfl ?_
    refine thenS_n ?_
    refine iteO_e h (fun hb55 h => W_true rfl hb55 ?_) (fun hb55 h => W_false rfl hb55 ?_)
    · refine W_sub [0] [0, 1, 5] (st' := ⟨[(0, .one (.e (.sl 0 0 x1.length))), (1, I i42), (5, I i43)], [.row .nod x1 false]⟩) (by kernel_rfl) ?_
      refine W_skip ?_
      refine thenS_n ?_
      refine W_block ?_
      refine W_seq ?_
      refine W_region ?_
      refine guardO_e h (fun hg57 h => ?_)
      refine WO_step 6 [0] [0, 1, 5] ((0 ≤ i42 ∧ i42 < ((x1.length : Nat) : Int)) ∧ (True ∧ True)) ⟨[(0, .one (.e (.sl 0 0 x1.length))), (1, I ((x1.getD i42.toNat dnod).parent)), (5, I i43)], [.row .nod x1 false]⟩ (by kernel_rfl) ⟨hg57, trivial, trivial⟩ ?_
      refine WO_nil rfl ?_
      refine thenS_n ?_
      refine W_region ?_
      refine WO_step 3 [0] [0, 1, 5] (True ∧ True) ⟨[(0, .one (.e (.sl 0 0 x1.length))), (1, I ((x1.getD i42.toNat dnod).parent)), (5, I (w64 (i43 + 1)))], [.row .nod x1 false]⟩ (by kernel_rfl) ⟨trivial, trivial⟩ ?_
      refine WO_nil rfl ?_
      refine blockS_n ?_
      refine thenS_n ?_
      exact ih _ _ h
    · refine W_sub [0] [5] (st' := ⟨[(5, I i43)], [.row .nod x1 false]⟩) (by kernel_rfl) ?_
      refine W_exit ?_
      refine thenS_e ?_
      refine thenS_e ?_
      cases h
      exact And.intro rfl rfl

def spec_depth (n : Nat) (x1 : List Nod) (i2 : Int) : Option (Int) :=
 bindO (spec_depth_L1 x1 n i2 0) fun i51 =>
 some i51

theorem spec_depth_ok (n : Nat) (x1 : List Nod) (i2 : Int) (i30 : Int) (h : spec_depth n x1 i2 = some i30) : FOk EE 72 [.one (.e (.sl 0 0 x1.length)), I i2] [.row .nod x1 false] (I i30) [.row .nod x1 false] := by
  unfold spec_depth at h
  refine FOk_of_W 20 1 Try.func72 rfl rfl (Nat.le_of_ble_eq_true rfl) rfl (fun w X θ => ?_)
  refine W_seq ?_
  refine W_region ?_
  refine WO_step 1 [0] [0, 1] True ⟨[(0, .one (.e (.sl 0 0 x1.length))), (1, I i2)], [.row .nod x1 false]⟩ (by kernel_rfl) trivial ?_
  refine WO_nil rfl ?_
  refine thenS_n ?_
  refine W_seq ?_
  refine W_region ?_
  refine WO_step 1 [0] [0, 1, 5] True ⟨[(0, .one (.e (.sl 0 0 x1.length))), (1, I i2), (5, I 0)], [.row .nod x1 false]⟩ (by kernel_rfl) trivial ?_
  refine WO_nil rfl ?_
  refine thenS_n ?_
  refine W_seq ?_
  refine W_block ?_
  refine W_loop ?_
  refine bindO_e h (fun i51 hi51 h => ?_)
  refine WL_cut (spec_depth_L1_ok w X θ x1 i51 n i2 0 hi51) ?_
  rintro _ _ ⟨rfl, rfl⟩
  refine blockS_y ?_
  refine thenS_n ?_
  refine W_seq ?_
  refine W_region ?_
  refine WO_step 2 [0] [4] True ⟨[(4, I i51)], [.row .nod x1 false]⟩ (by kernel_rfl) trivial ?_
  refine WO_nil rfl ?_
  refine thenS_n ?_
  refine W_ret ?_
  cases h
  exact ⟨[0], True, by kernel_rfl, trivial⟩

/- spec.validNode -/
def spec_validNode (n : Nat) (x1 : List Nod) (i2 : Int) : Option (Bool) :=
 guardO (0 ≤ i2 ∧ i2 < ((x1.length : Nat) : Int)) <|
 iteO (!(spec_inRange ((x1.getD i2.toNat dnod).value) (-1000) 1000))
 (some false)
 (iteO (decide (i2 = 0))
 (guardO (0 ≤ i2 ∧ i2 < ((x1.length : Nat) : Int)) <|
 bindO (iteO (decide (((x1.getD i2.toNat dnod).parent) = (-1)))
 (guardO (0 ≤ i2 ∧ i2 < ((x1.length : Nat) : Int)) <|
 some (decide (((x1.getD i2.toNat dnod).name) = [])))
 (some false)) fun b54 =>
 some b54)
 (guardO (0 ≤ i2 ∧ i2 < ((x1.length : Nat) : Int)) <|
 bindO (iteO (spec_inRange ((x1.getD i2.toNat dnod).parent) 0 (w64 (i2 - 1)))
 (guardO (0 ≤ i2 ∧ i2 < ((x1.length : Nat) : Int)) <|
 bindO (spec_validName n ((x1.getD i2.toNat dnod).name)) fun b61 =>
 iteO b61
 (guardO (0 ≤ i2 ∧ i2 ≤ ((x1.length : Nat) : Int)) <|
 guardO (0 ≤ i2 ∧ i2 < ((x1.length : Nat) : Int)) <|
 guardO (0 ≤ i2 ∧ i2 < ((x1.length : Nat) : Int)) <|
 bindO (spec_kid n ((x1.drop 0).take i2.toNat) ((x1.getD i2.toNat dnod).parent) ((x1.getD i2.toNat dnod).name)) fun i67 =>
 iteO (decide (i67 < 0))
 (bindO (spec_depth n x1 i2) fun i70 =>
 some (decide (i70 ≤ 4)))
 (some false))
 (some false))
 (some false)) fun b72 =>
 some b72))

theorem spec_validNode_ok (n : Nat) (x1 : List Nod) (i2 : Int) (b38 : Bool) (h : spec_validNode n x1 i2 = some b38) : FOk EE 61 [.one (.e (.sl 0 0 x1.length)), I i2] [.row .nod x1 false] (B b38) [.row .nod x1 false] := by
  unfold spec_validNode at h
  refine FOk_of_W 67 1 Try.func61 rfl rfl (Nat.le_of_ble_eq_true rfl) rfl (fun w X θ => ?_)
  refine W_seq ?_
  refine W_region ?_
  refine WO_step 1 [0] [0, 1] True ⟨[(0, .one (.e (.sl 0 0 x1.length))), (1, I i2)], [.row .nod x1 false]⟩ (by kernel_rfl) trivial ?_
  refine WO_nil rfl ?_
  refine thenS_n ?_
  refine W_seq ?_
  refine W_seq ?_
  refine W_region ?_
  refine guardO_e h (fun hg39 h => ?_)
  refine WO_step 5 [0] [0, 1, 9] ((0 ≤ i2 ∧ i2 < ((x1.length : Nat) : Int)) ∧ (True ∧ True)) ⟨[(0, .one (.e (.sl 0 0 x1.length))), (1, I i2), (9, I ((x1.getD i2.toNat dnod).value))], [.row .nod x1 false]⟩ (by kernel_rfl) ⟨hg39, trivial, trivial⟩ ?_
  refine WO_call [] Try.f62 rfl rfl rfl (by kernel_rfl) rfl rfl (by kernel_rfl) (spec_inRange_ok ((x1.getD i2.toNat dnod).value) (-1000) 1000) (trivial) rfl ?_
  refine WO_step 1 [0] [0, 1, 11] True ⟨[(0, .one (.e (.sl 0 0 x1.length))), (1, I i2), (11, B (!(spec_inRange ((x1.getD i2.toNat dnod).value) (-1000) 1000)))], [.row .nod x1 false]⟩ (by kernel_rfl) trivial ?_
  refine WO_nil rfl ?_
  refine thenS_n ?_
  refine iteO_e h (fun hb41 h => W_true rfl hb41 ?_) (fun hb41 h => W_false rfl hb41 ?_)
  · refine W_seq ?_
    refine W_region ?_
    refine WO_step 1 [0] [4] True ⟨[(4, B false)], [.row .nod x1 false]⟩ (by kernel_rfl) trivial ?_
    refine WO_nil rfl ?_
    refine thenS_n ?_
    refine W_ret ?_
    refine thenS_r ?_
    cases h
    exact ⟨[0], True, by kernel_rfl, trivial⟩
  · refine W_sub [0] [0, 1] (st' := ⟨[(0, .one (.e (.sl 0 0 x1.length))), (1, I i2)], [.row .nod x1 false]⟩) (by kernel_rfl) ?_
    refine W_skip ?_
    refine thenS_n ?_
    refine W_seq ?_
    refine W_seq ?_
    refine W_region ?_
    refine WO_step 2 [0] [0, 1, 13] (True ∧ True) ⟨[(0, .one (.e (.sl 0 0 x1.length))), (1, I i2), (13, B (decide (i2 = 0)))], [.row .nod x1 false]⟩ (by kernel_rfl) ⟨trivial, trivial⟩ ?_
    refine WO_nil rfl ?_
    refine thenS_n ?_
    refine iteO_e h (fun hb50 h => W_true rfl hb50 ?_) (fun hb50 h => W_false rfl hb50 ?_)
    · refine W_seq ?_
      refine W_region ?_
      refine guardO_e h (fun hg51 h => ?_)
      refine WO_step 7 [0] [0, 1, 20] ((0 ≤ i2 ∧ i2 < ((x1.length : Nat) : Int)) ∧ (True ∧ (True ∧ True))) ⟨[(0, .one (.e (.sl 0 0 x1.length))), (1, I i2), (20, B (decide (((x1.getD i2.toNat dnod).parent) = (-1))))], [.row .nod x1 false]⟩ (by kernel_rfl) ⟨hg51, trivial, trivial, trivial⟩ ?_
      refine bindO_e h (fun b54 hv55 h => ?_)
      refine WO_thru ⟨[(4, B b54)], [.row .nod x1 false]⟩ ?_ ?_
      · refine iteO_e hv55 (fun hb56 hv55 => WO_known 20 true rfl hb56 ?_) (fun hb56 hv55 => WO_known 20 false rfl hb56 ?_)
        · refine guardO_e hv55 (fun hg57 hv55 => ?_)
          refine WO_step 8 [0] [4] ((0 ≤ i2 ∧ i2 < ((x1.length : Nat) : Int)) ∧ (True ∧ (True ∧ True))) ⟨[(4, B (decide (((x1.getD i2.toNat dnod).name) = [])))], [.row .nod x1 false]⟩ (by kernel_rfl) ⟨hg57, trivial, trivial, trivial⟩ ?_
          cases hv55
          exact WO_nil rfl ⟨rfl, rfl⟩
        · refine WO_step 8 [0] [4] True ⟨[(4, B false)], [.row .nod x1 false]⟩ (by kernel_rfl) trivial ?_
          cases hv55
          exact WO_nil rfl ⟨rfl, rfl⟩
      · refine thenS_n ?_
        refine W_ret ?_
        refine thenS_r ?_
        cases h
        exact ⟨[0], True, by kernel_rfl, trivial⟩
    · refine W_sub [0] [0, 1] (st' := ⟨[(0, .one (.e (.sl 0 0 x1.length))), (1, I i2)], [.row .nod x1 false]⟩) (by kernel_rfl) ?_
      refine W_skip ?_
      refine thenS_n ?_
      refine W_seq ?_
      refine guardO_e h (fun hg58 h => ?_)
      refine bindO_e h (fun b72 hv73 h => ?_)
      refine W_cut (Q' := fun (e : Exit) (s : St) => e = .normal ∧ s = ⟨[(4, B b72)], [.row .nod x1 false]⟩) ?_ ?_
      · refine iteO_e hv73 (fun hb59 hv73 => ?_) (fun hb59 hv73 => ?_)
        · refine guardO_e hv73 (fun hg60 hv73 => ?_)
          refine bindO_e hv73 (fun b61 hc62 hv73 => ?_)
          refine iteO_e hv73 (fun hb63 hv73 => ?_) (fun hb63 hv73 => ?_)
          · refine guardO_e hv73 (fun hg64 hv73 => ?_)
            refine guardO_e hv73 (fun hg65 hv73 => ?_)
            refine guardO_e hv73 (fun hg66 hv73 => ?_)
            refine bindO_e hv73 (fun i67 hc68 hv73 => ?_)
            refine iteO_e hv73 (fun hb69 hv73 => ?_) (fun hb69 hv73 => ?_)
            · refine bindO_e hv73 (fun i70 hc71 hv73 => ?_)
              refine W_draw [] false (by kernel_rfl) (by kernel_rfl) ?_
              refine WD_takeK [0, 1, 2, 3, 4, 5, 6] [0, 1, 32, 34] [0, 1, 32, 34] (φ := ((0 ≤ i2 ∧ i2 < ((x1.length : Nat) : Int)) ∧ (0 ≤ i2 ∧ i2 < ((x1.length : Nat) : Int)) ∧ (True ∧ True ∧ (True ∧ True ∧ True)))) (ls' := #[true, true, true, true, true, true, true, false, false, false, false, false, false, false, false, false, false, false, false, false, false, false, false, false, false, false, false, false, false, false, false, false, false, false, false, false, false, false, false, false]) (Ts' := [(0, .one (.e (.sl 0 0 x1.length))), (1, I i2), (32, I ((x1.getD i2.toNat dnod).parent)), (34, I (w64 (i2 - 1)))]) (st' := ⟨[(0, .one (.e (.sl 0 0 x1.length))), (1, I i2), (32, I ((x1.getD i2.toNat dnod).parent)), (34, I (w64 (i2 - 1)))], [.row .nod x1 false]⟩) (n2 := 33) (by kernel_rfl) ⟨hg58, hg58, trivial, trivial, trivial, trivial, trivial⟩ rfl ?_
              refine WD_all [7] (n := 32) (by kernel_rfl) rfl ?_
              refine WM_call [] Try.f62 rfl rfl (by kernel_rfl) rfl rfl (by kernel_rfl) (spec_inRange_ok ((x1.getD i2.toNat dnod).parent) 0 (w64 (i2 - 1))) (trivial) rfl (And.intro rfl (trivial)) ?_
              refine WD_takeK [8] [0, 1, 36] [0, 1, 36] (φ := True) (ls' := #[true, true, true, true, true, true, true, true, true, false, false, false, false, false, false, false, false, false, false, false, false, false, false, false, false, false, false, false, false, false, false, false, false, false, false, false, false, false, false, false]) (Ts' := [(0, .one (.e (.sl 0 0 x1.length))), (1, I i2), (36, B (spec_inRange ((x1.getD i2.toNat dnod).parent) 0 (w64 (i2 - 1))))]) (st' := ⟨[(0, .one (.e (.sl 0 0 x1.length))), (1, I i2), (36, B (spec_inRange ((x1.getD i2.toNat dnod).parent) 0 (w64 (i2 - 1))))], [.row .nod x1 false]⟩) (n2 := 31) (by kernel_rfl) trivial rfl ?_
              refine WD_known 36 true rfl rfl hb59 ?_
              refine WD_takeK [9, 10, 11, 12, 13] [0, 1, 36, 41] [0, 1, 36, 41] (φ := ((0 ≤ i2 ∧ i2 < ((x1.length : Nat) : Int)) ∧ (0 ≤ i2 ∧ i2 < ((x1.length : Nat) : Int)) ∧ (True ∧ True ∧ True))) (ls' := #[true, true, true, true, true, true, true, true, true, true, true, true, true, true, false, false, false, false, false, false, false, false, false, false, false, false, false, false, false, false, false, false, false, false, false, false, false, false, false, false]) (Ts' := [(0, .one (.e (.sl 0 0 x1.length))), (1, I i2), (36, B true), (41, S ((x1.getD i2.toNat dnod).name))]) (st' := ⟨[(0, .one (.e (.sl 0 0 x1.length))), (1, I i2), (36, B true), (41, S ((x1.getD i2.toNat dnod).name))], [.row .nod x1 false]⟩) (n2 := 26) (by kernel_rfl) ⟨hg60, hg60, trivial, trivial, trivial⟩ rfl ?_
              refine WD_all [14] (n := 25) (by kernel_rfl) rfl ?_
              refine WM_call [] Try.f70 rfl rfl (by kernel_rfl) rfl rfl (by kernel_rfl) (spec_validName_ok n ((x1.getD i2.toNat dnod).name) b61 hc62) (trivial) rfl (And.intro rfl (trivial)) ?_
              refine WD_takeK [15, 16] [0, 1, 44] [0, 1, 44] (φ := True) (ls' := #[true, true, true, true, true, true, true, true, true, true, true, true, true, true, true, true, true, false, false, false, false, false, false, false, false, false, false, false, false, false, false, false, false, false, false, false, false, false, false, false]) (Ts' := [(0, .one (.e (.sl 0 0 x1.length))), (1, I i2), (44, B b61)]) (st' := ⟨[(0, .one (.e (.sl 0 0 x1.length))), (1, I i2), (44, B b61)], [.row .nod x1 false]⟩) (n2 := 23) (by kernel_rfl) trivial rfl ?_
              refine WD_known 44 true rfl rfl hb63 ?_
              refine WD_takeK [17, 18, 20, 21, 22, 23, 24, 25, 26, 27, 28, 29] [0, 1, 44, 45, 46, 52, 57] [0, 1, 44, 45, 46, 52, 57] (φ := ((0 ≤ i2 ∧ i2 < ((x1.length : Nat) : Int)) ∧ (0 ≤ i2 ∧ i2 < ((x1.length : Nat) : Int)) ∧ (True ∧ True ∧ ((0 ≤ i2 ∧ i2 < ((x1.length : Nat) : Int)) ∧ (0 ≤ i2 ∧ i2 < ((x1.length : Nat) : Int)) ∧ (True ∧ True ∧ True))))) (ls' := #[true, true, true, true, true, true, true, true, true, true, true, true, true, true, true, true, true, true, true, false, true, true, true, true, true, true, true, true, true, true, false, false, false, false, false, false, false, false, false, false]) (Ts' := [(0, .one (.e (.sl 0 0 x1.length))), (1, I i2), (44, B true), (45, .one (.e (.sl 0 0 x1.length))), (46, I i2), (52, I ((x1.getD i2.toNat dnod).parent)), (57, S ((x1.getD i2.toNat dnod).name))]) (st' := ⟨[(0, .one (.e (.sl 0 0 x1.length))), (1, I i2), (44, B true), (45, .one (.e (.sl 0 0 x1.length))), (46, I i2), (52, I ((x1.getD i2.toNat dnod).parent)), (57, S ((x1.getD i2.toNat dnod).name))], [.row .nod x1 false]⟩) (n2 := 11) (by kernel_rfl) ⟨hg65, hg65, trivial, trivial, hg66, hg66, trivial, trivial, trivial⟩ rfl ?_
              refine WD_all [19] (n := 10) (by kernel_rfl) rfl ?_
              refine WM_op (φ := 0 ≤ i2 ∧ i2 ≤ ((x1.length : Nat) : Int)) (v := .one (.e (.sl 0 0 i2.toNat))) (H' := [.row .nod x1 false]) rfl rfl (by kernel_rfl) hg64 rfl (And.intro rfl (trivial)) ?_
              refine WD_all [30] (n := 9) (by kernel_rfl) rfl ?_
              refine WM_call [.view 0] Try.f71 rfl rfl (by kernel_rfl) rfl rfl (by kernel_rfl) (spec_kid_ok n ((x1.drop 0).take i2.toNat) ((x1.getD i2.toNat dnod).parent) ((x1.getD i2.toNat dnod).name) i67 hc68) (trivial) rfl (And.intro rfl (trivial)) ?_
              refine WD_takeK [31, 32, 33] [0, 1, 61] [0, 1, 61] (φ := (True ∧ True ∧ True)) (ls' := #[true, true, true, true, true, true, true, true, true, true, true, true, true, true, true, true, true, true, true, true, true, true, true, true, true, true, true, true, true, true, true, true, true, true, false, false, false, false, false, false]) (Ts' := [(0, .one (.e (.sl 0 0 x1.length))), (1, I i2), (61, B (decide (i67 < 0)))]) (st' := ⟨[(0, .one (.e (.sl 0 0 x1.length))), (1, I i2), (61, B (decide (i67 < 0)))], [.row .nod x1 false]⟩) (n2 := 6) (by kernel_rfl) ⟨trivial, trivial, trivial⟩ rfl ?_
              refine WD_known 61 true rfl rfl hb69 ?_
              refine WD_takeK [34, 35] [61, 62, 63] [61, 62, 63] (φ := True) (ls' := #[true, true, true, true, true, true, true, true, true, true, true, true, true, true, true, true, true, true, true, true, true, true, true, true, true, true, true, true, true, true, true, true, true, true, true, true, false, false, false, false]) (Ts' := [(61, B true), (62, .one (.e (.sl 0 0 x1.length))), (63, I i2)]) (st' := ⟨[(61, B true), (62, .one (.e (.sl 0 0 x1.length))), (63, I i2)], [.row .nod x1 false]⟩) (n2 := 4) (by kernel_rfl) trivial rfl ?_
              refine WD_all [36] (n := 3) (by kernel_rfl) rfl ?_
              refine WM_call [.ro 0] Try.f72 rfl rfl (by kernel_rfl) rfl rfl (by kernel_rfl) (spec_depth_ok n x1 i2 i70 hc71) (And.intro (And.intro rfl rfl) (trivial)) rfl (And.intro rfl (trivial)) ?_
              refine WD_takeK [37, 38, 39] [4] [4] (φ := (True ∧ True ∧ True)) (ls' := #[true, true, true, true, true, true, true, true, true, true, true, true, true, true, true, true, true, true, true, true, true, true, true, true, true, true, true, true, true, true, true, true, true, true, true, true, true, true, true, true]) (Ts' := [(4, B (decide (i70 ≤ 4)))]) (st' := ⟨[(4, B (decide (i70 ≤ 4)))], [.row .nod x1 false]⟩) (n2 := 0) (by kernel_rfl) ⟨trivial, trivial, trivial⟩ rfl ?_
              exact WD_done [0] [4] (st' := ⟨[(4, B (decide (i70 ≤ 4)))], [.row .nod x1 false]⟩) (by kernel_rfl) (by kernel_rfl) (And.intro rfl (by cases hv73; rfl))
            · refine W_draw [] false (by kernel_rfl) (by kernel_rfl) ?_
              refine WD_takeK [0, 1, 2, 3, 4, 5, 6] [0, 1, 32, 34] [0, 1, 32, 34] (φ := ((0 ≤ i2 ∧ i2 < ((x1.length : Nat) : Int)) ∧ (0 ≤ i2 ∧ i2 < ((x1.length : Nat) : Int)) ∧ (True ∧ True ∧ (True ∧ True ∧ True)))) (ls' := #[true, true, true, true, true, true, true, false, false, false, false, false, false, false, false, false, false, false, false, false, false, false, false, false, false, false, false, false, false, false, false, false, false, false, false, false, false, false, false, false]) (Ts' := [(0, .one (.e (.sl 0 0 x1.length))), (1, I i2), (32, I ((x1.getD i2.toNat dnod).parent)), (34, I (w64 (i2 - 1)))]) (st' := ⟨[(0, .one (.e (.sl 0 0 x1.length))), (1, I i2), (32, I ((x1.getD i2.toNat dnod).parent)), (34, I (w64 (i2 - 1)))], [.row .nod x1 false]⟩) (n2 := 33) (by kernel_rfl) ⟨hg58, hg58, trivial, trivial, trivial, trivial, trivial⟩ rfl ?_
              refine WD_all [7] (n := 32) (by kernel_rfl) rfl ?_
              refine WM_call [] Try.f62 rfl rfl (by kernel_rfl) rfl rfl (by kernel_rfl) (spec_inRange_ok ((x1.getD i2.toNat dnod).parent) 0 (w64 (i2 - 1))) (trivial) rfl (And.intro rfl (trivial)) ?_
              refine WD_takeK [8] [0, 1, 36] [0, 1, 36] (φ := True) (ls' := #[true, true, true, true, true, true, true, true, true, false, false, false, false, false, false, false, false, false, false, false, false, false, false, false, false, false, false, false, false, false, false, false, false, false, false, false, false, false, false, false]) (Ts' := [(0, .one (.e (.sl 0 0 x1.length))), (1, I i2), (36, B (spec_inRange ((x1.getD i2.toNat dnod).parent) 0 (w64 (i2 - 1))))]) (st' := ⟨[(0, .one (.e (.sl 0 0 x1.length))), (1, I i2), (36, B (spec_inRange ((x1.getD i2.toNat dnod).parent) 0 (w64 (i2 - 1))))], [.row .nod x1 false]⟩) (n2 := 31) (by kernel_rfl) trivial rfl ?_
              refine WD_known 36 true rfl rfl hb59 ?_
              refine WD_takeK [9, 10, 11, 12, 13] [0, 1, 36, 41] [0, 1, 36, 41] (φ := ((0 ≤ i2 ∧ i2 < ((x1.length : Nat) : Int)) ∧ (0 ≤ i2 ∧ i2 < ((x1.length : Nat) : Int)) ∧ (True ∧ True ∧ True))) (ls' := #[true, true, true, true, true, true, true, true, true, true, true, true, true, true, false, false, false, false, false, false, false, false, false, false, false, false, false, false, false, false, false, false, false, false, false, false, false, false, false, false]) (Ts' := [(0, .one (.e (.sl 0 0 x1.length))), (1, I i2), (36, B true), (41, S ((x1.getD i2.toNat dnod).name))]) (st' := ⟨[(0, .one (.e (.sl 0 0 x1.length))), (1, I i2), (36, B true), (41, S ((x1.getD i2.toNat dnod).name))], [.row .nod x1 false]⟩) (n2 := 26) (by kernel_rfl) ⟨hg60, hg60, trivial, trivial, trivial⟩ rfl ?_
              refine WD_all [14] (n := 25) (by kernel_rfl) rfl ?_
              refine WM_call [] Try.f70 rfl rfl (by kernel_rfl) rfl rfl (by kernel_rfl) (spec_validName_ok n ((x1.getD i2.toNat dnod).name) b61 hc62) (trivial) rfl (And.intro rfl (trivial)) ?_
              refine WD_takeK [15, 16] [0, 1, 44] [0, 1, 44] (φ := True) (ls' := #[true, true, true, true, true, true, true, true, true, true, true, true, true, true, true, true, true, false, false, false, false, false, false, false, false, false, false, false, false, false, false, false, false, false, false, false, false, false, false, false]) (Ts' := [(0, .one (.e (.sl 0 0 x1.length))), (1, I i2), (44, B b61)]) (st' := ⟨[(0, .one (.e (.sl 0 0 x1.length))), (1, I i2), (44, B b61)], [.row .nod x1 false]⟩) (n2 := 23) (by kernel_rfl) trivial rfl ?_
              refine WD_known 44 true rfl rfl hb63 ?_
              refine WD_takeK [17, 18, 20, 21, 22, 23, 24, 25, 26, 27, 28, 29] [0, 1, 44, 45, 46, 52, 57] [0, 1, 44, 45, 46, 52, 57] (φ := ((0 ≤ i2 ∧ i2 < ((x1.length : Nat) : Int)) ∧ (0 ≤ i2 ∧ i2 < ((x1.length : Nat) : Int)) ∧ (True ∧ True ∧ ((0 ≤ i2 ∧ i2 < ((x1.length : Nat) : Int)) ∧ (0 ≤ i2 ∧ i2 < ((x1.length : Nat) : Int)) ∧ (True ∧ True ∧ True))))) (ls' := #[true, true, true, true, true, true, true, true, true, true, true, true, true, true, true, true, true, true, true, false, true, true, true, true, true, true, true, true, true, true, false, false, false, false, false, false, false, false, false, false]) (Ts' := [(0, .one (.e (.sl 0 0 x1.length))), (1, I i2), (44, B true), (45, .one (.e (.sl 0 0 x1.length))), (46, I i2), (52, I ((x1.getD i2.toNat dnod).parent)), (57, S ((x1.getD i2.toNat dnod).name))]) (st' := ⟨[(0, .one (.e (.sl 0 0 x1.length))), (1, I i2), (44, B true), (45, .one (.e (.sl 0 0 x1.length))), (46, I i2), (52, I ((x1.getD i2.toNat dnod).parent)), (57, S ((x1.getD i2.toNat dnod).name))], [.row .nod x1 false]⟩) (n2 := 11) (by kernel_rfl) ⟨hg65, hg65, trivial, trivial, hg66, hg66, trivial, trivial, trivial⟩ rfl ?_
              refine WD_all [19] (n := 10) (by kernel_rfl) rfl ?_
              refine WM_op (φ := 0 ≤ i2 ∧ i2 ≤ ((x1.length : Nat) : Int)) (v := .one (.e (.sl 0 0 i2.toNat))) (H' := [.row .nod x1 false]) rfl rfl (by kernel_rfl) hg64 rfl (And.intro rfl (trivial)) ?_
              refine WD_all [30] (n := 9) (by kernel_rfl) rfl ?_
              refine WM_call [.view 0] Try.f71 rfl rfl (by kernel_rfl) rfl rfl (by kernel_rfl) (spec_kid_ok n ((x1.drop 0).take i2.toNat) ((x1.getD i2.toNat dnod).parent) ((x1.getD i2.toNat dnod).name) i67 hc68) (trivial) rfl (And.intro rfl (trivial)) ?_
              refine WD_takeK [31, 32, 33] [0, 1, 61] [0, 1, 61] (φ := (True ∧ True ∧ True)) (ls' := #[true, true, true, true, true, true, true, true, true, true, true, true, true, true, true, true, true, true, true, true, true, true, true, true, true, true, true, true, true, true, true, true, true, true, false, false, false, false, false, false]) (Ts' := [(0, .one (.e (.sl 0 0 x1.length))), (1, I i2), (61, B (decide (i67 < 0)))]) (st' := ⟨[(0, .one (.e (.sl 0 0 x1.length))), (1, I i2), (61, B (decide (i67 < 0)))], [.row .nod x1 false]⟩) (n2 := 6) (by kernel_rfl) ⟨trivial, trivial, trivial⟩ rfl ?_
              refine WD_known 61 false rfl rfl hb69 ?_
              refine WD_takeK [34, 35, 36, 37, 38, 39] [4] [4] (φ := True) (ls' := #[true, true, true, true, true, true, true, true, true, true, true, true, true, true, true, true, true, true, true, true, true, true, true, true, true, true, true, true, true, true, true, true, true, true, true, true, true, true, true, true]) (Ts' := [(4, B false)]) (st' := ⟨[(4, B false)], [.row .nod x1 false]⟩) (n2 := 0) (by kernel_rfl) trivial rfl ?_
              exact WD_done [0] [4] (st' := ⟨[(4, B false)], [.row .nod x1 false]⟩) (by kernel_rfl) (by kernel_rfl) (And.intro rfl (by cases hv73; rfl))
          · refine W_draw [] false (by kernel_rfl) (by kernel_rfl) ?_
            refine WD_takeK [0, 1, 2, 3, 4, 5, 6] [0, 1, 32, 34] [0, 1, 32, 34] (φ := ((0 ≤ i2 ∧ i2 < ((x1.length : Nat) : Int)) ∧ (0 ≤ i2 ∧ i2 < ((x1.length : Nat) : Int)) ∧ (True ∧ True ∧ (True ∧ True ∧ True)))) (ls' := #[true, true, true, true, true, true, true, false, false, false, false, false, false, false, false, false, false, false, false, false, false, false, false, false, false, false, false, false, false, false, false, false, false, false, false, false, false, false, false, false]) (Ts' := [(0, .one (.e (.sl 0 0 x1.length))), (1, I i2), (32, I ((x1.getD i2.toNat dnod).parent)), (34, I (w64 (i2 - 1)))]) (st' := ⟨[(0, .one (.e (.sl 0 0 x1.length))), (1, I i2), (32, I ((x1.getD i2.toNat dnod).parent)), (34, I (w64 (i2 - 1)))], [.row .nod x1 false]⟩) (n2 := 33) (by kernel_rfl) ⟨hg58, hg58, trivial, trivial, trivial, trivial, trivial⟩ rfl ?_
            refine WD_all [7] (n := 32) (by kernel_rfl) rfl ?_
            refine WM_call [] Try.f62 rfl rfl (by kernel_rfl) rfl rfl (by kernel_rfl) (spec_inRange_ok ((x1.getD i2.toNat dnod).parent) 0 (w64 (i2 - 1))) (trivial) rfl (And.intro rfl (trivial)) ?_
            refine WD_takeK [8] [0, 1, 36] [0, 1, 36] (φ := True) (ls' := #[true, true, true, true, true, true, true, true, true, false, false, false, false, false, false, false, false, false, false, false, false, false, false, false, false, false, false, false, false, false, false, false, false, false, false, false, false, false, false, false]) (Ts' := [(0, .one (.e (.sl 0 0 x1.length))), (1, I i2), (36, B (spec_inRange ((x1.getD i2.toNat dnod).parent) 0 (w64 (i2 - 1))))]) (st' := ⟨[(0, .one (.e (.sl 0 0 x1.length))), (1, I i2), (36, B (spec_inRange ((x1.getD i2.toNat dnod).parent) 0 (w64 (i2 - 1))))], [.row .nod x1 false]⟩) (n2 := 31) (by kernel_rfl) trivial rfl ?_
            refine WD_known 36 true rfl rfl hb59 ?_
            refine WD_takeK [9, 10, 11, 12, 13] [0, 1, 36, 41] [0, 1, 36, 41] (φ := ((0 ≤ i2 ∧ i2 < ((x1.length : Nat) : Int)) ∧ (0 ≤ i2 ∧ i2 < ((x1.length : Nat) : Int)) ∧ (True ∧ True ∧ True))) (ls' := #[true, true, true, true, true, true, true, true, true, true, true, true, true, true, false, false, false, false, false, false, false, false, false, false, false, false, false, false, false, false, false, false, false, false, false, false, false, false, false, false]) (Ts' := [(0, .one (.e (.sl 0 0 x1.length))), (1, I i2), (36, B true), (41, S ((x1.getD i2.toNat dnod).name))]) (st' := ⟨[(0, .one (.e (.sl 0 0 x1.length))), (1, I i2), (36, B true), (41, S ((x1.getD i2.toNat dnod).name))], [.row .nod x1 false]⟩) (n2 := 26) (by kernel_rfl) ⟨hg60, hg60, trivial, trivial, trivial⟩ rfl ?_
            refine WD_all [14] (n := 25) (by kernel_rfl) rfl ?_
            refine WM_call [] Try.f70 rfl rfl (by kernel_rfl) rfl rfl (by kernel_rfl) (spec_validName_ok n ((x1.getD i2.toNat dnod).name) b61 hc62) (trivial) rfl (And.intro rfl (trivial)) ?_
            refine WD_takeK [15, 16] [0, 1, 44] [0, 1, 44] (φ := True) (ls' := #[true, true, true, true, true, true, true, true, true, true, true, true, true, true, true, true, true, false, false, false, false, false, false, false, false, false, false, false, false, false, false, false, false, false, false, false, false, false, false, false]) (Ts' := [(0, .one (.e (.sl 0 0 x1.length))), (1, I i2), (44, B b61)]) (st' := ⟨[(0, .one (.e (.sl 0 0 x1.length))), (1, I i2), (44, B b61)], [.row .nod x1 false]⟩) (n2 := 23) (by kernel_rfl) trivial rfl ?_
            refine WD_known 44 false rfl rfl hb63 ?_
            refine WD_takeK [17, 18, 19, 20, 21, 22, 23, 24, 25, 26, 27, 28, 29, 30, 31, 32, 33, 34, 35, 36, 37, 38, 39] [4] [4] (φ := True) (ls' := #[true, true, true, true, true, true, true, true, true, true, true, true, true, true, true, true, true, true, true, true, true, true, true, true, true, true, true, true, true, true, true, true, true, true, true, true, true, true, true, true]) (Ts' := [(4, B false)]) (st' := ⟨[(4, B false)], [.row .nod x1 false]⟩) (n2 := 0) (by kernel_rfl) trivial rfl ?_
            exact WD_done [0] [4] (st' := ⟨[(4, B false)], [.row .nod x1 false]⟩) (by kernel_rfl) (by kernel_rfl) (And.intro rfl (by cases hv73; rfl))
        · refine W_draw [] false (by kernel_rfl) (by kernel_rfl) ?_
          refine WD_takeK [0, 1, 2, 3, 4, 5, 6] [0, 1, 32, 34] [0, 1, 32, 34] (φ := ((0 ≤ i2 ∧ i2 < ((x1.length : Nat) : Int)) ∧ (0 ≤ i2 ∧ i2 < ((x1.length : Nat) : Int)) ∧ (True ∧ True ∧ (True ∧ True ∧ True)))) (ls' := #[true, true, true, true, true, true, true, false, false, false, false, false, false, false, false, false, false, false, false, false, false, false, false, false, false, false, false, false, false, false, false, false, false, false, false, false, false, false, false, false]) (Ts' := [(0, .one (.e (.sl 0 0 x1.length))), (1, I i2), (32, I ((x1.getD i2.toNat dnod).parent)), (34, I (w64 (i2 - 1)))]) (st' := ⟨[(0, .one (.e (.sl 0 0 x1.length))), (1, I i2), (32, I ((x1.getD i2.toNat dnod).parent)), (34, I (w64 (i2 - 1)))], [.row .nod x1 false]⟩) (n2 := 33) (by kernel_rfl) ⟨hg58, hg58, trivial, trivial, trivial, trivial, trivial⟩ rfl ?_
          refine WD_all [7] (n := 32) (by kernel_rfl) rfl ?_
          refine WM_call [] Try.f62 rfl rfl (by kernel_rfl) rfl rfl (by kernel_rfl) (spec_inRange_ok ((x1.getD i2.toNat dnod).parent) 0 (w64 (i2 - 1))) (trivial) rfl (And.intro rfl (trivial)) ?_
          refine WD_takeK [8] [0, 1, 36] [0, 1, 36] (φ := True) (ls' := #[true, true, true, true, true, true, true, true, true, false, false, false, false, false, false, false, false, false, false, false, false, false, false, false, false, false, false, false, false, false, false, false, false, false, false, false, false, false, false, false]) (Ts' := [(0, .one (.e (.sl 0 0 x1.length))), (1, I i2), (36, B (spec_inRange ((x1.getD i2.toNat dnod).parent) 0 (w64 (i2 - 1))))]) (st' := ⟨[(0, .one (.e (.sl 0 0 x1.length))), (1, I i2), (36, B (spec_inRange ((x1.getD i2.toNat dnod).parent) 0 (w64 (i2 - 1))))], [.row .nod x1 false]⟩) (n2 := 31) (by kernel_rfl) trivial rfl ?_
          refine WD_known 36 false rfl rfl hb59 ?_
          refine WD_takeK [9, 10, 11, 12, 13, 14, 15, 16, 17, 18, 19, 20, 21, 22, 23, 24, 25, 26, 27, 28, 29, 30, 31, 32, 33, 34, 35, 36, 37, 38, 39] [4] [4] (φ := True) (ls' := #[true, true, true, true, true, true, true, true, true, true, true, true, true, true, true, true, true, true, true, true, true, true, true, true, true, true, true, true, true, true, true, true, true, true, true, true, true, true, true, true]) (Ts' := [(4, B false)]) (st' := ⟨[(4, B false)], [.row .nod x1 false]⟩) (n2 := 0) (by kernel_rfl) trivial rfl ?_
          exact WD_done [0] [4] (st' := ⟨[(4, B false)], [.row .nod x1 false]⟩) (by kernel_rfl) (by kernel_rfl) (And.intro rfl (by cases hv73; rfl))
      · rintro _ _ ⟨rfl, rfl⟩
        refine thenS_n ?_
        refine W_ret ?_
        cases h
        exact ⟨[0], True, by kernel_rfl, trivial⟩

/- spec.validTree -/
def spec_validTree_L1 (x1 : List Nod) : Nat → Int → Option ((Unit) ⊕ (Unit))
| 0, _ => none
| n + 1, i52 =>
 iteO (decide (i52 < ((x1.length : Nat) : Int)))
 (bindO (spec_validNode n x1 i52) fun b71 =>
 iteO (!b71)
 (some (.inl ()))
 (spec_validTree_L1 x1 n (w64 (i52 + 1))))
 (some (.inr ()))

theorem spec_validTree_L1_ok (w : World) (X : Nat → Prop) (θ : List Loc) (x1 : List Nod) (v : (Unit) ⊕ (Unit)) : ∀ (n : Nat) (i52 : Int), spec_validTree_L1 x1 n i52 = some v → WL EE ⟨w, X, θ, 17, 1⟩ (subC [1, 0, 1, 4, 4] (bodyC Try.f42)) (fun (e : Exit) (s : St) => (match v with | (.inl _) => e = .ret ∧ s = ⟨[(2, B false)], [.row .nod x1 false]⟩ | (.inr _) => e = .exit 0 ∧ s = ⟨[(0, .one (.e (.sl 0 0 x1.length)))], [.row .nod x1 false]⟩ : Prop)) ⟨[(0, .one (.e (.sl 0 0 x1.length))), (3, I i52)], [.row .nod x1 false]⟩ := by
  intro n
  induction n with
  | zero => intro _ h; exact none_e h
  | succ n ih =>
    intro i52 h
    rw [spec_validTree_L1] at h
    refine WL_round ?_
    refine W_seq ?_
    refine W_seq ?_
    refine W_region ?_
    refine WO_step 4 [0] [0, 3, 7] (True ∧ (True ∧ True)) ⟨[(0, .one (.e (.sl 0 0 x1.length))), (3, I i52), (7, B (decide (i52 < ((x1.length : Nat) : Int))))], [.row .nod x1 false]⟩ (by kernel_rfl) ⟨trivial, trivial, trivial⟩ ?_
    refine WO_nil rfl ?_
    refine thenS_n ?_
    refine iteO_e h (fun hb66 h => W_true rfl hb66 ?_) (fun hb66 h => W_false rfl hb66 ?_)
    · refine W_sub [0] [0, 3] (st' := ⟨[(0, .one (.e (.sl 0 0 x1.length))), (3, I i52)], [.row .nod x1 false]⟩) (by kernel_rfl) ?_
      refine W_skip ?_
      refine thenS_n ?_
      refine W_seq ?_
      refine W_block ?_
      refine W_seq ?_
      refine W_region ?_
      refine WO_step 2 [0] [0, 3, 10, 11] True ⟨[(0, .one (.e (.sl 0 0 x1.length))), (3, I i52), (10, .one (.e (.sl 0 0 x1.length))), (11, I i52)], [.row .nod x1 false]⟩ (by kernel_rfl) trivial ?_
      refine bindO_e h (fun b71 hc72 h => ?_)
      refine WO_call [.ro 0] Try.f61 rfl rfl rfl (by kernel_rfl) rfl rfl (by kernel_rfl) (spec_validNode_ok n x1 i52 b71 hc72) (And.intro (And.intro rfl rfl) (trivial)) rfl ?_
      refine WO_step 1 [0] [0, 3, 13] True ⟨[(0, .one (.e (.sl 0 0 x1.length))), (3, I i52), (13, B (!b71))], [.row .nod x1 false]⟩ (by kernel_rfl) trivial ?_
      refine WO_nil rfl ?_
      refine thenS_n ?_
      refine iteO_e h (fun hb74 h => W_true rfl hb74 ?_) (fun hb74 h => W_false rfl hb74 ?_)
      · refine W_seq ?_
        refine W_region ?_
        refine WO_step 1 [0] [2] True ⟨[(2, B false)], [.row .nod x1 false]⟩ (by kernel_rfl) trivial ?_
        refine WO_nil rfl ?_
        refine thenS_n ?_
        refine W_ret ?_
        refine blockS_r ?_
        refine thenS_r ?_
        refine thenS_r ?_
        cases h
        exact And.intro rfl rfl
      · refine W_sub [0] [0, 3] (st' := ⟨[(0, .one (.e (.sl 0 0 x1.length))), (3, I i52)], [.row .nod x1 false]⟩) (by kernel_rfl) ?_
        refine W_skip ?_
        refine blockS_n ?_
        refine thenS_n ?_
        refine W_region ?_
        refine WO_step 3 [0] [0, 3] (True ∧ True) ⟨[(0, .one (.e (.sl 0 0 x1.length))), (3, I (w64 (i52 + 1)))], [.row .nod x1 false]⟩ (by kernel_rfl) ⟨trivial, trivial⟩ ?_
        refine WO_nil rfl ?_
        refine thenS_n ?_
        exact ih _ h
    · refine W_sub [0] [0] (st' := ⟨[(0, .one (.e (.sl 0 0 x1.length)))], [.row .nod x1 false]⟩) (by kernel_rfl) ?_
      refine W_exit ?_
      refine thenS_e ?_
      refine thenS_e ?_
      cases h
      exact And.intro rfl rfl

def spec_validTree (n : Nat) (x1 : List Nod) : Option (Bool) :=
 bindO (spec_validTree_L1 x1 n 0) fun v75 =>
 match v75 with
 | (.inl _) => (some false)
 | (.inr _) => (some (spec_inRange ((x1.length : Nat) : Int) 1 12))


theorem spec_validTree_ok (n : Nat) (x1 : List Nod) (b38 : Bool) (h : spec_validTree n x1 = some b38) : FOk EE 42 [.one (.e (.sl 0 0 x1.length))] [.row .nod x1 false] (B b38) [.row .nod x1 false] := by
  unfold spec_validTree at h
  refine FOk_of_W 17 1 Try.func42 rfl rfl (Nat.le_of_ble_eq_true rfl) rfl (fun w X θ => ?_)
  refine W_seq ?_
  refine W_region ?_
  refine WO_step 1 [0] [0] True ⟨[(0, .one (.e (.sl 0 0 x1.length)))], [.row .nod x1 false]⟩ (by kernel_rfl) trivial ?_
  refine WO_nil rfl ?_
  refine thenS_n ?_
  refine W_seq ?_
  refine W_seq ?_
  refine W_region ?_
  refine WO_step 1 [0] [0, 3] True ⟨[(0, .one (.e (.sl 0 0 x1.length))), (3, I 0)], [.row .nod x1 false]⟩ (by kernel_rfl) trivial ?_
  refine WO_nil rfl ?_
  refine thenS_n ?_
  refine W_block ?_
  refine W_loop ?_
  refine bindO_e h (fun v75 hv75 h => ?_)
  refine WL_cut (spec_validTree_L1_ok w X θ x1 v75 n 0 hv75) ?_
  rcases v75 with _ | _
  · rintro _ _ ⟨rfl, rfl⟩
    refine blockS_r ?_
    refine thenS_r ?_
    cases h
    exact ⟨[0], True, by kernel_rfl, trivial⟩
  · rintro _ _ ⟨rfl, rfl⟩
    refine blockS_y ?_
    refine thenS_n ?_
    refine W_seq ?_
    refine W_region ?_
    refine WO_step 2 [0] [15] (True ∧ True) ⟨[(15, I ((x1.length : Nat) : Int))], [.row .nod x1 false]⟩ (by kernel_rfl) ⟨trivial, trivial⟩ ?_
    refine WO_call [] Try.f62 rfl rfl rfl (by kernel_rfl) rfl rfl (by kernel_rfl) (spec_inRange_ok ((x1.length : Nat) : Int) 1 12) (trivial) rfl ?_
    refine WO_step 1 [0] [2] True ⟨[(2, B (spec_inRange ((x1.length : Nat) : Int) 1 12))], [.row .nod x1 false]⟩ (by kernel_rfl) trivial ?_
    refine WO_nil rfl ?_
    refine thenS_n ?_
    refine W_ret ?_
    cases h
    exact ⟨[0], True, by kernel_rfl, trivial⟩

/- spec.validLog -/
def spec_validLog_L1 (x1 : List Nod) (x2 : List Rcd) : Nat → Int → Option ((Unit) ⊕ (Unit))
| 0, _ => none
| n + 1, i133 =>
 iteO (decide (i133 < ((x2.length : Nat) : Int)))
 (guardO (0 ≤ i133 ∧ i133 < ((x2.length : Nat) : Int)) <|
 iteO ((!(spec_inRange ((x2.getD i133.toNat drcd).who) 0 3)) || ((!(spec_inRange ((x2.getD i133.toNat drcd).node) 0 (w64 (((x1.length : Nat) : Int) - 1)))) || ((!(spec_inRange ((x2.getD i133.toNat drcd).value) (-1000) 1000)) || ((x2.getD i133.toNat drcd).fin && ((!decide (((x2.getD i133.toNat drcd).node) = 0)) || (!decide (((x2.getD i133.toNat drcd).value) = 0)))))))
 (some (.inl ()))
 (spec_validLog_L1 x1 x2 n (w64 (i133 + 1))))
 (some (.inr ()))

theorem spec_validLog_L1_ok (w : World) (X : Nat → Prop) (θ : List Loc) (x1 : List Nod) (x2 : List Rcd) (v : (Unit) ⊕ (Unit)) : ∀ (n : Nat) (i133 : Int), spec_validLog_L1 x1 x2 n i133 = some v → WL EE ⟨w, X, θ, 53, 2⟩ (subC [1, 0, 1, 4, 4] (bodyC Try.f43)) (fun (e : Exit) (s : St) => (match v with | (.inl _) => e = .ret ∧ s = ⟨[(4, B false)], [.row .nod x1 false, .row .rcd x2 false]⟩ | (.inr _) => e = .exit 0 ∧ s = ⟨[(1, .one (.e (.sl 1 0 x2.length)))], [.row .nod x1 false, .row .rcd x2 false]⟩ : Prop)) ⟨[(0, .one (.e (.sl 0 0 x1.length))), (1, .one (.e (.sl 1 0 x2.length))), (5, I i133)], [.row .nod x1 false, .row .rcd x2 false]⟩ := by
  intro n
  induction n with
  | zero => intro _ h; exact none_e h
  | succ n ih =>
    intro i133 h
    rw [spec_validLog_L1] at h
    refine WL_round ?_
    refine W_seq ?_
    refine W_seq ?_
    refine W_region ?_
    refine WO_step 4 [0, 1] [0, 1, 5, 10] (True ∧ (True ∧ True)) ⟨[(0, .one (.e (.sl 0 0 x1.length))), (1, .one (.e (.sl 1 0 x2.length))), (5, I i133), (10, B (decide (i133 < ((x2.length : Nat) : Int))))], [.row .nod x1 false, .row .rcd x2 false]⟩ (by kernel_rfl) ⟨trivial, trivial, trivial⟩ ?_
    refine WO_nil rfl ?_
    refine thenS_n ?_
    refine iteO_e h (fun hb167 h => W_true rfl hb167 ?_) (fun hb167 h => W_false rfl hb167 ?_)
    · refine W_sub [0, 1] [0, 1, 5] (st' := ⟨[(0, .one (.e (.sl 0 0 x1.length))), (1, .one (.e (.sl 1 0 x2.length))), (5, I i133)], [.row .nod x1 false, .row .rcd x2 false]⟩) (by kernel_rfl) ?_
      refine W_skip ?_
      refine thenS_n ?_
      refine W_seq ?_
      refine W_block ?_
      refine W_seq ?_
      refine W_region ?_
      refine guardO_e h (fun hg182 h => ?_)
      refine WO_step 6 [0, 1, 2] [0, 1, 5, 6] ((0 ≤ i133 ∧ i133 < ((x2.length : Nat) : Int)) ∧ (True ∧ (True ∧ (True ∧ True)))) ⟨[(0, .one (.e (.sl 0 0 x1.length))), (1, .one (.e (.sl 1 0 x2.length))), (5, I i133), (6, .one (.e (.p 2 0)))], [.row .nod x1 false, .row .rcd x2 false, .cells [cI ((x2.getD i133.toNat drcd).who), cI ((x2.getD i133.toNat drcd).node), cI ((x2.getD i133.toNat drcd).value), cB ((x2.getD i133.toNat drcd).fin)]]⟩ (by kernel_rfl) ⟨hg182, trivial, trivial, trivial, trivial⟩ ?_
      refine WO_nil rfl ?_
      refine thenS_n ?_
      refine W_seq ?_
      refine W_region ?_
      refine WO_step 2 [0, 1, 2] [0, 1, 5, 6, 18] (True ∧ True) ⟨[(0, .one (.e (.sl 0 0 x1.length))), (1, .one (.e (.sl 1 0 x2.length))), (5, I i133), (6, .one (.e (.p 2 0))), (18, I ((x2.getD i133.toNat drcd).who))], [.row .nod x1 false, .row .rcd x2 false, .cells [cI ((x2.getD i133.toNat drcd).who), cI ((x2.getD i133.toNat drcd).node), cI ((x2.getD i133.toNat drcd).value), cB ((x2.getD i133.toNat drcd).fin)]]⟩ (by kernel_rfl) ⟨trivial, trivial⟩ ?_
      refine WO_call [] Try.f62 rfl rfl rfl (by kernel_rfl) rfl rfl (by kernel_rfl) (spec_inRange_ok ((x2.getD i133.toNat drcd).who) 0 3) (trivial) rfl ?_
      refine WO_step 2 [0, 1, 2] [0, 1, 5, 6, 21] True ⟨[(0, .one (.e (.sl 0 0 x1.length))), (1, .one (.e (.sl 1 0 x2.length))), (5, I i133), (6, .one (.e (.p 2 0))), (21, B (!(spec_inRange ((x2.getD i133.toNat drcd).who) 0 3)))], [.row .nod x1 false, .row .rcd x2 false, .cells [cI ((x2.getD i133.toNat drcd).who), cI ((x2.getD i133.toNat drcd).node), cI ((x2.getD i133.toNat drcd).value), cB ((x2.getD i133.toNat drcd).fin)]]⟩ (by kernel_rfl) trivial ?_
      refine WO_thru ⟨[(0, .one (.e (.sl 0 0 x1.length))), (1, .one (.e (.sl 1 0 x2.length))), (5, I i133), (49, B ((!(spec_inRange ((x2.getD i133.toNat drcd).who) 0 3)) || ((!(spec_inRange ((x2.getD i133.toNat drcd).node) 0 (w64 (((x1.length : Nat) : Int) - 1)))) || ((!(spec_inRange ((x2.getD i133.toNat drcd).value) (-1000) 1000)) || ((x2.getD i133.toNat drcd).fin && ((!decide (((x2.getD i133.toNat drcd).node) = 0)) || (!decide (((x2.getD i133.toNat drcd).value) = 0))))))))], [.row .nod x1 false, .row .rcd x2 false]⟩ ?_ ?_
      · refine WO_if 21 rfl (fun hb189 => ?_) (fun hb189 => ?_)
        · refine WO_step 28 [0, 1] [0, 1, 5, 49] True ⟨[(0, .one (.e (.sl 0 0 x1.length))), (1, .one (.e (.sl 1 0 x2.length))), (5, I i133), (49, B true)], [.row .nod x1 false, .row .rcd x2 false]⟩ (by kernel_rfl) trivial ?_
          exact WO_nil rfl ⟨rfl, by first | rfl | (rw [hb189]; first | done | rfl)⟩
        · refine WO_step 5 [0, 1, 2] [0, 1, 5, 6, 21, 23, 26] (True ∧ (True ∧ (True ∧ True))) ⟨[(0, .one (.e (.sl 0 0 x1.length))), (1, .one (.e (.sl 1 0 x2.length))), (5, I i133), (6, .one (.e (.p 2 0))), (21, B false), (23, I ((x2.getD i133.toNat drcd).node)), (26, I (w64 (((x1.length : Nat) : Int) - 1)))], [.row .nod x1 false, .row .rcd x2 false, .cells [cI ((x2.getD i133.toNat drcd).who), cI ((x2.getD i133.toNat drcd).node), cI ((x2.getD i133.toNat drcd).value), cB ((x2.getD i133.toNat drcd).fin)]]⟩ (by kernel_rfl) ⟨trivial, trivial, trivial, trivial⟩ ?_
          refine WO_call [] Try.f62 rfl rfl rfl (by kernel_rfl) rfl rfl (by kernel_rfl) (spec_inRange_ok ((x2.getD i133.toNat drcd).node) 0 (w64 (((x1.length : Nat) : Int) - 1))) (trivial) rfl ?_
          refine WO_step 3 [0, 1, 2] [0, 1, 5, 6, 30] True ⟨[(0, .one (.e (.sl 0 0 x1.length))), (1, .one (.e (.sl 1 0 x2.length))), (5, I i133), (6, .one (.e (.p 2 0))), (30, B (!(spec_inRange ((x2.getD i133.toNat drcd).node) 0 (w64 (((x1.length : Nat) : Int) - 1)))))], [.row .nod x1 false, .row .rcd x2 false, .cells [cI ((x2.getD i133.toNat drcd).who), cI ((x2.getD i133.toNat drcd).node), cI ((x2.getD i133.toNat drcd).value), cB ((x2.getD i133.toNat drcd).fin)]]⟩ (by kernel_rfl) trivial ?_
          refine WO_if 30 rfl (fun hb190 => ?_) (fun hb190 => ?_)
          · refine WO_step 19 [0, 1] [0, 1, 5, 49] True ⟨[(0, .one (.e (.sl 0 0 x1.length))), (1, .one (.e (.sl 1 0 x2.length))), (5, I i133), (49, B true)], [.row .nod x1 false, .row .rcd x2 false]⟩ (by kernel_rfl) trivial ?_
            exact WO_nil rfl ⟨rfl, by first | rfl | (simp only [hb189, hb190]; first | done | rfl)⟩
          · refine WO_step 2 [0, 1, 2] [0, 1, 5, 6, 30, 32] (True ∧ True) ⟨[(0, .one (.e (.sl 0 0 x1.length))), (1, .one (.e (.sl 1 0 x2.length))), (5, I i133), (6, .one (.e (.p 2 0))), (30, B false), (32, I ((x2.getD i133.toNat drcd).value))], [.row .nod x1 false, .row .rcd x2 false, .cells [cI ((x2.getD i133.toNat drcd).who), cI ((x2.getD i133.toNat drcd).node), cI ((x2.getD i133.toNat drcd).value), cB ((x2.getD i133.toNat drcd).fin)]]⟩ (by kernel_rfl) ⟨trivial, trivial⟩ ?_
            refine WO_call [] Try.f62 rfl rfl rfl (by kernel_rfl) rfl rfl (by kernel_rfl) (spec_inRange_ok ((x2.getD i133.toNat drcd).value) (-1000) 1000) (trivial) rfl ?_
            refine WO_step 3 [0, 1, 2] [0, 1, 5, 6, 36] True ⟨[(0, .one (.e (.sl 0 0 x1.length))), (1, .one (.e (.sl 1 0 x2.length))), (5, I i133), (6, .one (.e (.p 2 0))), (36, B (!(spec_inRange ((x2.getD i133.toNat drcd).value) (-1000) 1000)))], [.row .nod x1 false, .row .rcd x2 false, .cells [cI ((x2.getD i133.toNat drcd).who), cI ((x2.getD i133.toNat drcd).node), cI ((x2.getD i133.toNat drcd).value), cB ((x2.getD i133.toNat drcd).fin)]]⟩ (by kernel_rfl) trivial ?_
            refine WO_if 36 rfl (fun hb191 => ?_) (fun hb191 => ?_)
            · refine WO_step 13 [0, 1] [0, 1, 5, 49] True ⟨[(0, .one (.e (.sl 0 0 x1.length))), (1, .one (.e (.sl 1 0 x2.length))), (5, I i133), (49, B true)], [.row .nod x1 false, .row .rcd x2 false]⟩ (by kernel_rfl) trivial ?_
              exact WO_nil rfl ⟨rfl, by first | rfl | (simp only [hb189, hb190, hb191]; first | done | rfl)⟩
            · refine WO_step 3 [0, 1, 2] [0, 1, 5, 6, 36, 39] (True ∧ True) ⟨[(0, .one (.e (.sl 0 0 x1.length))), (1, .one (.e (.sl 1 0 x2.length))), (5, I i133), (6, .one (.e (.p 2 0))), (36, B false), (39, B ((x2.getD i133.toNat drcd).fin))], [.row .nod x1 false, .row .rcd x2 false, .cells [cI ((x2.getD i133.toNat drcd).who), cI ((x2.getD i133.toNat drcd).node), cI ((x2.getD i133.toNat drcd).value), cB ((x2.getD i133.toNat drcd).fin)]]⟩ (by kernel_rfl) ⟨trivial, trivial⟩ ?_
              refine WO_if 39 rfl (fun hb192 => ?_) (fun hb192 => ?_)
              · refine WO_step 4 [0, 1, 2] [0, 1, 5, 6, 36, 39, 43] (True ∧ (True ∧ True)) ⟨[(0, .one (.e (.sl 0 0 x1.length))), (1, .one (.e (.sl 1 0 x2.length))), (5, I i133), (6, .one (.e (.p 2 0))), (36, B false), (39, B true), (43, B (!decide (((x2.getD i133.toNat drcd).node) = 0)))], [.row .nod x1 false, .row .rcd x2 false, .cells [cI ((x2.getD i133.toNat drcd).who), cI ((x2.getD i133.toNat drcd).node), cI ((x2.getD i133.toNat drcd).value), cB ((x2.getD i133.toNat drcd).fin)]]⟩ (by kernel_rfl) ⟨trivial, trivial, trivial⟩ ?_
                refine WO_if 43 rfl (fun hb193 => ?_) (fun hb193 => ?_)
                · refine WO_step 6 [0, 1] [0, 1, 5, 49] True ⟨[(0, .one (.e (.sl 0 0 x1.length))), (1, .one (.e (.sl 1 0 x2.length))), (5, I i133), (49, B true)], [.row .nod x1 false, .row .rcd x2 false]⟩ (by kernel_rfl) trivial ?_
                  exact WO_nil rfl ⟨rfl, by first | rfl | (simp only [hb189, hb190, hb191, hb192, hb193]; first | done | rfl)⟩
                · refine WO_step 6 [0, 1] [0, 1, 5, 49] (True ∧ (True ∧ True)) ⟨[(0, .one (.e (.sl 0 0 x1.length))), (1, .one (.e (.sl 1 0 x2.length))), (5, I i133), (49, B (!decide (((x2.getD i133.toNat drcd).value) = 0)))], [.row .nod x1 false, .row .rcd x2 false]⟩ (by kernel_rfl) ⟨trivial, trivial, trivial⟩ ?_
                  exact WO_nil rfl ⟨rfl, by first | rfl | (simp only [hb189, hb190, hb191, hb192, hb193]; first | done | rfl)⟩
              · refine WO_step 10 [0, 1] [0, 1, 5, 49] True ⟨[(0, .one (.e (.sl 0 0 x1.length))), (1, .one (.e (.sl 1 0 x2.length))), (5, I i133), (49, B false)], [.row .nod x1 false, .row .rcd x2 false]⟩ (by kernel_rfl) trivial ?_
                exact WO_nil rfl ⟨rfl, by first | rfl | (simp only [hb189, hb190, hb191, hb192]; first | done | rfl)⟩
      · refine thenS_n ?_
        refine iteO_e h (fun hb195 h => W_true rfl hb195 ?_) (fun hb195 h => W_false rfl hb195 ?_)
        · refine W_seq ?_
          refine W_region ?_
          refine WO_step 1 [0, 1] [4] True ⟨[(4, B false)], [.row .nod x1 false, .row .rcd x2 false]⟩ (by kernel_rfl) trivial ?_
          refine WO_nil rfl ?_
          refine thenS_n ?_
          refine W_ret ?_
          refine blockS_r ?_
          refine thenS_r ?_
          refine thenS_r ?_
          cases h
          exact And.intro rfl rfl
        · refine W_sub [0, 1] [0, 1, 5] (st' := ⟨[(0, .one (.e (.sl 0 0 x1.length))), (1, .one (.e (.sl 1 0 x2.length))), (5, I i133)], [.row .nod x1 false, .row .rcd x2 false]⟩) (by kernel_rfl) ?_
          refine W_skip ?_
          refine blockS_n ?_
          refine thenS_n ?_
          refine W_region ?_
          refine WO_step 3 [0, 1] [0, 1, 5] (True ∧ True) ⟨[(0, .one (.e (.sl 0 0 x1.length))), (1, .one (.e (.sl 1 0 x2.length))), (5, I (w64 (i133 + 1)))], [.row .nod x1 false, .row .rcd x2 false]⟩ (by kernel_rfl) ⟨trivial, trivial⟩ ?_
          refine WO_nil rfl ?_
          refine thenS_n ?_
          exact ih _ h
    · refine W_sub [0, 1] [1] (st' := ⟨[(1, .one (.e (.sl 1 0 x2.length)))], [.row .nod x1 false, .row .rcd x2 false]⟩) (by kernel_rfl) ?_
      refine W_exit ?_
      refine thenS_e ?_
      refine thenS_e ?_
      cases h
      exact And.intro rfl rfl

def spec_validLog (n : Nat) (x1 : List Nod) (x2 : List Rcd) : Option (Bool) :=
 bindO (spec_validLog_L1 x1 x2 n 0) fun v196 =>
 match v196 with
 | (.inl _) => (some false)
 | (.inr _) => (some (decide (((x2.length : Nat) : Int) ≤ 16)))


theorem spec_validLog_ok (n : Nat) (x1 : List Nod) (x2 : List Rcd) (b99 : Bool) (h : spec_validLog n x1 x2 = some b99) : FOk EE 43 [.one (.e (.sl 0 0 x1.length)), .one (.e (.sl 1 0 x2.length))] [.row .nod x1 false, .row .rcd x2 false] (B b99) [.row .nod x1 false, .row .rcd x2 false] := by
  unfold spec_validLog at h
  refine FOk_of_W 53 2 Try.func43 rfl rfl (Nat.le_of_ble_eq_true rfl) rfl (fun w X θ => ?_)
  refine W_seq ?_
  refine W_region ?_
  refine WO_step 1 [0, 1] [0, 1] True ⟨[(0, .one (.e (.sl 0 0 x1.length))), (1, .one (.e (.sl 1 0 x2.length)))], [.row .nod x1 false, .row .rcd x2 false]⟩ (by kernel_rfl) trivial ?_
  refine WO_nil rfl ?_
  refine thenS_n ?_
  refine W_seq ?_
  refine W_seq ?_
  refine W_region ?_
  refine WO_step 1 [0, 1] [0, 1, 5] True ⟨[(0, .one (.e (.sl 0 0 x1.length))), (1, .one (.e (.sl 1 0 x2.length))), (5, I 0)], [.row .nod x1 false, .row .rcd x2 false]⟩ (by kernel_rfl) trivial ?_
  refine WO_nil rfl ?_
  refine thenS_n ?_
  refine W_block ?_
  refine W_loop ?_
  refine bindO_e h (fun v196 hv196 h => ?_)
  refine WL_cut (spec_validLog_L1_ok w X θ x1 x2 v196 n 0 hv196) ?_
  rcases v196 with _ | _
  · rintro _ _ ⟨rfl, rfl⟩
    refine blockS_r ?_
    refine thenS_r ?_
    cases h
    exact ⟨[0, 1], True, by kernel_rfl, trivial⟩
  · rintro _ _ ⟨rfl, rfl⟩
    refine blockS_y ?_
    refine thenS_n ?_
    refine W_seq ?_
    refine W_region ?_
    refine WO_step 4 [0, 1] [4] (True ∧ (True ∧ True)) ⟨[(4, B (decide (((x2.length : Nat) : Int) ≤ 16)))], [.row .nod x1 false, .row .rcd x2 false]⟩ (by kernel_rfl) ⟨trivial, trivial, trivial⟩ ?_
    refine WO_nil rfl ?_
    refine thenS_n ?_
    refine W_ret ?_
    cases h
    exact ⟨[0, 1], True, by kernel_rfl, trivial⟩

/- spec.isIn -/
def spec_isIn_L1 (x1 : List Int) (i2 : Int) : Nat → Int → Option ((Unit) ⊕ (Unit))
| 0, _ => none
| n + 1, i45 =>
 iteO (decide (i45 < ((x1.length : Nat) : Int)))
 (guardO (0 ≤ i45 ∧ i45 < ((x1.length : Nat) : Int)) <|
 iteO (decide ((x1.getD i45.toNat 0) = i2))
 (some (.inl ()))
 (spec_isIn_L1 x1 i2 n (w64 (i45 + 1))))
 (some (.inr ()))

theorem spec_isIn_L1_ok (w : World) (X : Nat → Prop) (θ : List Loc) (x1 : List Int) (i2 : Int) (v : (Unit) ⊕ (Unit)) : ∀ (n : Nat) (i45 : Int), spec_isIn_L1 x1 i2 n i45 = some v → WL EE ⟨w, X, θ, 18, 1⟩ (subC [1, 0, 1, 4, 4] (bodyC Try.f49)) (fun (e : Exit) (s : St) => (match v with | (.inl _) => e = .ret ∧ s = ⟨[(4, B true)], [.row .int x1 false]⟩ | (.inr _) => e = .exit 0 ∧ s = ⟨[], [.row .int x1 false]⟩ : Prop)) ⟨[(0, .one (.e (.sl 0 0 x1.length))), (1, I i2), (5, I i45)], [.row .int x1 false]⟩ := by
  intro n
  induction n with
  | zero => intro _ h; exact none_e h
  | succ n ih =>
    intro i45 h
    rw [spec_isIn_L1] at h
    refine WL_round ?_
    refine W_seq ?_
    refine W_seq ?_
    refine W_region ?_
    refine WO_step 4 [0] [0, 1, 5, 9] (True ∧ (True ∧ True)) ⟨[(0, .one (.e (.sl 0 0 x1.length))), (1, I i2), (5, I i45), (9, B (decide (i45 < ((x1.length : Nat) : Int))))], [.row .int x1 false]⟩ (by kernel_rfl) ⟨trivial, trivial, trivial⟩ ?_
    refine WO_nil rfl ?_
    refine thenS_n ?_
    refine iteO_e h (fun hb57 h => W_true rfl hb57 ?_) (fun hb57 h => W_false rfl hb57 ?_)
    · refine W_sub [0] [0, 1, 5] (st' := ⟨[(0, .one (.e (.sl 0 0 x1.length))), (1, I i2), (5, I i45)], [.row .int x1 false]⟩) (by kernel_rfl) ?_
      refine W_skip ?_
      refine thenS_n ?_
      refine W_seq ?_
      refine W_block ?_
      refine W_seq ?_
      refine W_region ?_
      refine guardO_e h (fun hg61 h => ?_)
      refine WO_step 6 [0] [0, 1, 5, 17] ((0 ≤ i45 ∧ i45 < ((x1.length : Nat) : Int)) ∧ (True ∧ (True ∧ True))) ⟨[(0, .one (.e (.sl 0 0 x1.length))), (1, I i2), (5, I i45), (17, B (decide ((x1.getD i45.toNat 0) = i2)))], [.row .int x1 false]⟩ (by kernel_rfl) ⟨hg61, trivial, trivial, trivial⟩ ?_
      refine WO_nil rfl ?_
      refine thenS_n ?_
      refine iteO_e h (fun hb63 h => W_true rfl hb63 ?_) (fun hb63 h => W_false rfl hb63 ?_)
      · refine W_seq ?_
        refine W_region ?_
        refine WO_step 1 [0] [4] True ⟨[(4, B true)], [.row .int x1 false]⟩ (by kernel_rfl) trivial ?_
        refine WO_nil rfl ?_
        refine thenS_n ?_
        refine W_ret ?_
        refine blockS_r ?_
        refine thenS_r ?_
        refine thenS_r ?_
        cases h
        exact And.intro rfl rfl
      · refine W_sub [0] [0, 1, 5] (st' := ⟨[(0, .one (.e (.sl 0 0 x1.length))), (1, I i2), (5, I i45)], [.row .int x1 false]⟩) (by kernel_rfl) ?_
        refine W_skip ?_
        refine blockS_n ?_
        refine thenS_n ?_
        refine W_region ?_
        refine WO_step 3 [0] [0, 1, 5] (True ∧ True) ⟨[(0, .one (.e (.sl 0 0 x1.length))), (1, I i2), (5, I (w64 (i45 + 1)))], [.row .int x1 false]⟩ (by kernel_rfl) ⟨trivial, trivial⟩ ?_
        refine WO_nil rfl ?_
        refine thenS_n ?_
        exact ih _ h
    · refine W_sub [0] [] (st' := ⟨[], [.row .int x1 false]⟩) (by kernel_rfl) ?_
      refine W_exit ?_
      refine thenS_e ?_
      refine thenS_e ?_
      cases h
      exact And.intro rfl rfl

def spec_isIn (n : Nat) (x1 : List Int) (i2 : Int) : Option (Bool) :=
 bindO (spec_isIn_L1 x1 i2 n 0) fun v64 =>
 match v64 with
 | (.inl _) => (some true)
 | (.inr _) => (some false)


theorem spec_isIn_ok (n : Nat) (x1 : List Int) (i2 : Int) (b33 : Bool) (h : spec_isIn n x1 i2 = some b33) : FOk EE 49 [.one (.e (.sl 0 0 x1.length)), I i2] [.row .int x1 false] (B b33) [.row .int x1 false] := by
  unfold spec_isIn at h
  refine FOk_of_W 18 1 Try.func49 rfl rfl (Nat.le_of_ble_eq_true rfl) rfl (fun w X θ => ?_)
  refine W_seq ?_
  refine W_region ?_
  refine WO_step 1 [0] [0, 1] True ⟨[(0, .one (.e (.sl 0 0 x1.length))), (1, I i2)], [.row .int x1 false]⟩ (by kernel_rfl) trivial ?_
  refine WO_nil rfl ?_
  refine thenS_n ?_
  refine W_seq ?_
  refine W_seq ?_
  refine W_region ?_
  refine WO_step 1 [0] [0, 1, 5] True ⟨[(0, .one (.e (.sl 0 0 x1.length))), (1, I i2), (5, I 0)], [.row .int x1 false]⟩ (by kernel_rfl) trivial ?_
  refine WO_nil rfl ?_
  refine thenS_n ?_
  refine W_block ?_
  refine W_loop ?_
  refine bindO_e h (fun v64 hv64 h => ?_)
  refine WL_cut (spec_isIn_L1_ok w X θ x1 i2 v64 n 0 hv64) ?_
  rcases v64 with _ | _
  · rintro _ _ ⟨rfl, rfl⟩
    refine blockS_r ?_
    refine thenS_r ?_
    cases h
    exact ⟨[0], True, by kernel_rfl, trivial⟩
  · rintro _ _ ⟨rfl, rfl⟩
    refine blockS_y ?_
    refine thenS_n ?_
    refine W_seq ?_
    refine W_region ?_
    refine WO_step 1 [0] [4] True ⟨[(4, B false)], [.row .int x1 false]⟩ (by kernel_rfl) trivial ?_
    refine WO_nil rfl ?_
    refine thenS_n ?_
    refine W_ret ?_
    cases h
    exact ⟨[0], True, by kernel_rfl, trivial⟩

/- spec.leave -/
def spec_leave_L1 (x1 : List Int) (i2 : Int) : Nat → (List Int) → Int → Option ((List Int))
| 0, _, _ => none
| n + 1, x78, i79 =>
 iteO (decide (i79 < ((x1.length : Nat) : Int)))
 (guardO (0 ≤ i79 ∧ i79 < ((x1.length : Nat) : Int)) <|
 bindO (iteO (!decide ((x1.getD i79.toNat 0) = i2))
 (guardO (0 ≤ i79 ∧ i79 < ((x1.length : Nat) : Int)) <|
 guardO (0 = 0 ∧ x78.length = x78.length ∧ x78.length + (([(x1.getD i79.toNat 0)].drop 0).take ([(x1.getD i79.toNat 0)].length)).length ≤ 1099511627776) <|
 some (x78 ++ (([(x1.getD i79.toNat 0)].drop 0).take ([(x1.getD i79.toNat 0)].length))))
 (some x78)) fun x110 =>
 spec_leave_L1 x1 i2 n x110 (w64 (i79 + 1)))
 (some x78)

theorem spec_leave_L1_ok (w : World) (X : Nat → Prop) (θ : List Loc) (x1 : List Int) (i2 : Int) (x96 : (List Int)) : ∀ (n : Nat) (x78 : List Int) (i79 : Int), spec_leave_L1 x1 i2 n x78 i79 = some x96 → WL EE ⟨w, X, θ, 28, 1⟩ (subC [1, 1, 0, 1, 4, 4] (bodyC Try.f50)) (fun (e : Exit) (s : St) => e = .exit 0 ∧ s = ⟨[(5, .one (.e (.sl 1 0 x96.length)))], [.row .int x1 false, .row .int x96 true]⟩) ⟨[(0, .one (.e (.sl 0 0 x1.length))), (1, I i2), (5, .one (.e (.sl 1 0 x78.length))), (6, I i79)], [.row .int x1 false, .row .int x78 true]⟩ := by
  intro n
  induction n with
  | zero => intro _ _ h; exact none_e h
  | succ n ih =>
    intro x78 i79 h
    rw [spec_leave_L1] at h
    refine WL_round ?_
    refine W_seq ?_
    refine W_seq ?_
    refine W_region ?_
    refine WO_step 4 [0, 1] [0, 1, 5, 6, 11] (True ∧ (True ∧ True)) ⟨[(0, .one (.e (.sl 0 0 x1.length))), (1, I i2), (5, .one (.e (.sl 1 0 x78.length))), (6, I i79), (11, B (decide (i79 < ((x1.length : Nat) : Int))))], [.row .int x1 false, .row .int x78 true]⟩ (by kernel_rfl) ⟨trivial, trivial, trivial⟩ ?_
    refine WO_nil rfl ?_
    refine thenS_n ?_
    refine iteO_e h (fun hb99 h => W_true rfl hb99 ?_) (fun hb99 h => W_false rfl hb99 ?_)
    · refine W_sub [0, 1] [0, 1, 5, 6] (st' := ⟨[(0, .one (.e (.sl 0 0 x1.length))), (1, I i2), (5, .one (.e (.sl 1 0 x78.length))), (6, I i79)], [.row .int x1 false, .row .int x78 true]⟩) (by kernel_rfl) ?_
      refine W_skip ?_
      refine thenS_n ?_
      refine W_seq ?_
      refine W_block ?_
      refine W_seq ?_
      refine W_region ?_
      refine guardO_e h (fun hg106 h => ?_)
      refine WO_step 6 [0, 1] [0, 1, 5, 6, 19] ((0 ≤ i79 ∧ i79 < ((x1.length : Nat) : Int)) ∧ (True ∧ (True ∧ True))) ⟨[(0, .one (.e (.sl 0 0 x1.length))), (1, I i2), (5, .one (.e (.sl 1 0 x78.length))), (6, I i79), (19, B (!decide ((x1.getD i79.toNat 0) = i2)))], [.row .int x1 false, .row .int x78 true]⟩ (by kernel_rfl) ⟨hg106, trivial, trivial, trivial⟩ ?_
      refine WO_nil rfl ?_
      refine thenS_n ?_
      refine bindO_e h (fun x110 hx110 h => ?_)
      refine W_cut (Q' := fun (e : Exit) (s : St) => e = .normal ∧ s = ⟨[(0, .one (.e (.sl 0 0 x1.length))), (1, I i2), (5, .one (.e (.sl 1 0 x110.length))), (6, I i79)], [.row .int x1 false, .row .int x110 true]⟩) ?_ ?_
      · refine iteO_e hx110 (fun hb112 hx110 => W_true rfl hb112 ?_) (fun hb112 hx110 => W_false rfl hb112 ?_)
        · refine W_region ?_
          refine guardO_e hx110 (fun hg113 hx110 => ?_)
          refine guardO_e hx110 (fun hg114 hx110 => ?_)
          refine WO_step 8 [0, 3] [0, 1, 5, 6] ((0 ≤ i79 ∧ i79 < ((x1.length : Nat) : Int)) ∧ (True ∧ ((0 = 0 ∧ x78.length = x78.length ∧ x78.length + (([(x1.getD i79.toNat 0)].drop 0).take ([(x1.getD i79.toNat 0)].length)).length ≤ 1099511627776) ∧ True))) ⟨[(0, .one (.e (.sl 0 0 x1.length))), (1, I i2), (5, .one (.e (.sl 1 0 ((x78 ++ (([(x1.getD i79.toNat 0)].drop 0).take ([(x1.getD i79.toNat 0)].length))).length)))), (6, I i79)], [.row .int x1 false, .row .int (x78 ++ (([(x1.getD i79.toNat 0)].drop 0).take ([(x1.getD i79.toNat 0)].length))) true]⟩ (by kernel_rfl) ⟨hg113, trivial, hg114, trivial⟩ ?_
          refine WO_nil rfl ?_
          cases hx110
          exact And.intro rfl rfl
        · refine W_sub [0, 1] [0, 1, 5, 6] (st' := ⟨[(0, .one (.e (.sl 0 0 x1.length))), (1, I i2), (5, .one (.e (.sl 1 0 x78.length))), (6, I i79)], [.row .int x1 false, .row .int x78 true]⟩) (by kernel_rfl) ?_
          refine W_skip ?_
          cases hx110
          exact And.intro rfl rfl
      · rintro _ _ ⟨rfl, rfl⟩
        refine blockS_n ?_
        refine thenS_n ?_
        refine W_region ?_
        refine WO_step 3 [0, 1] [0, 1, 5, 6] (True ∧ True) ⟨[(0, .one (.e (.sl 0 0 x1.length))), (1, I i2), (5, .one (.e (.sl 1 0 x110.length))), (6, I (w64 (i79 + 1)))], [.row .int x1 false, .row .int x110 true]⟩ (by kernel_rfl) ⟨trivial, trivial⟩ ?_
        refine WO_nil rfl ?_
        refine thenS_n ?_
        exact ih _ _ h
    · refine W_sub [0, 1] [5] (st' := ⟨[(5, .one (.e (.sl 1 0 x78.length)))], [.row .int x1 false, .row .int x78 true]⟩) (by kernel_rfl) ?_
      refine W_exit ?_
      refine thenS_e ?_
      refine thenS_e ?_
      cases h
      exact And.intro rfl rfl

def spec_leave (n : Nat) (x1 : List Int) (i2 : Int) : Option ((List Int)) :=
 bindO (spec_leave_L1 x1 i2 n ([] : List Int) 0) fun x96 =>
 some x96

theorem spec_leave_ok (n : Nat) (x1 : List Int) (i2 : Int) (x57 : List Int) (h : spec_leave n x1 i2 = some x57) : FOk EE 50 [.one (.e (.sl 0 0 x1.length)), I i2] [.row .int x1 false] (.one (.e (.sl 1 0 x57.length))) [.row .int x1 false, .row .int x57 true] := by
  unfold spec_leave at h
  refine FOk_of_W 28 1 Try.func50 rfl rfl (Nat.le_of_ble_eq_true rfl) rfl (fun w X θ => ?_)
  refine W_seq ?_
  refine W_region ?_
  refine WO_step 1 [0] [0, 1] True ⟨[(0, .one (.e (.sl 0 0 x1.length))), (1, I i2)], [.row .int x1 false]⟩ (by kernel_rfl) trivial ?_
  refine WO_nil rfl ?_
  refine thenS_n ?_
  refine W_seq ?_
  refine W_region ?_
  refine WO_step 2 [0, 1] [0, 1, 5] True ⟨[(0, .one (.e (.sl 0 0 x1.length))), (1, I i2), (5, .one (.e (.sl 1 0 (([] : List Int).length))))], [.row .int x1 false, .row .int ([] : List Int) true]⟩ (by kernel_rfl) trivial ?_
  refine WO_nil rfl ?_
  refine thenS_n ?_
  refine W_seq ?_
  refine W_seq ?_
  refine W_region ?_
  refine WO_step 1 [0, 1] [0, 1, 5, 6] True ⟨[(0, .one (.e (.sl 0 0 x1.length))), (1, I i2), (5, .one (.e (.sl 1 0 (([] : List Int).length)))), (6, I 0)], [.row .int x1 false, .row .int ([] : List Int) true]⟩ (by kernel_rfl) trivial ?_
  refine WO_nil rfl ?_
  refine thenS_n ?_
  refine W_block ?_
  refine W_loop ?_
  refine bindO_e h (fun x96 hx96 h => ?_)
  refine WL_cut (spec_leave_L1_ok w X θ x1 i2 x96 n ([] : List Int) 0 hx96) ?_
  rintro _ _ ⟨rfl, rfl⟩
  refine blockS_y ?_
  refine thenS_n ?_
  refine W_seq ?_
  refine W_region ?_
  refine WO_step 2 [0, 1] [4] True ⟨[(4, .one (.e (.sl 1 0 x96.length)))], [.row .int x1 false, .row .int x96 true]⟩ (by kernel_rfl) trivial ?_
  refine WO_nil rfl ?_
  refine thenS_n ?_
  refine W_ret ?_
  cases h
  exact ⟨[0, 1], True, by kernel_rfl, trivial⟩

/- spec.ended -/
def spec_ended_L1 (x1 : List Rcd) (i3 : Int) : Nat → Int → Option ((Unit) ⊕ (Unit))
| 0, _ => none
| n + 1, i94 =>
 iteO (decide (i94 < ((x1.length : Nat) : Int)))
 (guardO (0 ≤ i94 ∧ i94 < ((x1.length : Nat) : Int)) <|
 bindO (iteO (decide (((x1.getD i94.toNat drcd).who) = i3))
 (guardO (0 ≤ i94 ∧ i94 < ((x1.length : Nat) : Int)) <|
 some ((x1.getD i94.toNat drcd).fin))
 (some false)) fun b131 =>
 iteO b131
 (some (.inl ()))
 (spec_ended_L1 x1 i3 n (w64 (i94 + 1))))
 (some (.inr ()))

theorem spec_ended_L1_ok (w : World) (X : Nat → Prop) (θ : List Loc) (x1 : List Rcd) (i3 : Int) (v : (Unit) ⊕ (Unit)) : ∀ (n : Nat) (i94 : Int), spec_ended_L1 x1 i3 n i94 = some v → WL EE ⟨w, X, θ, 29, 1⟩ (subC [1, 0, 1, 4, 4] (bodyC Try.f44)) (fun (e : Exit) (s : St) => (match v with | (.inl _) => e = .ret ∧ s = ⟨[(6, B true)], [.row .rcd x1 false]⟩ | (.inr _) => e = .exit 0 ∧ s = ⟨[], [.row .rcd x1 false]⟩ : Prop)) ⟨[(0, .one (.e (.sl 0 0 x1.length))), (2, I i3), (7, I i94)], [.row .rcd x1 false]⟩ := by
  intro n
  induction n with
  | zero => intro _ h; exact none_e h
  | succ n ih =>
    intro i94 h
    rw [spec_ended_L1] at h
    refine WL_round ?_
    refine W_seq ?_
    refine W_seq ?_
    refine W_region ?_
    refine WO_step 4 [0] [0, 2, 7, 12] (True ∧ (True ∧ True)) ⟨[(0, .one (.e (.sl 0 0 x1.length))), (2, I i3), (7, I i94), (12, B (decide (i94 < ((x1.length : Nat) : Int))))], [.row .rcd x1 false]⟩ (by kernel_rfl) ⟨trivial, trivial, trivial⟩ ?_
    refine WO_nil rfl ?_
    refine thenS_n ?_
    refine iteO_e h (fun hb118 h => W_true rfl hb118 ?_) (fun hb118 h => W_false rfl hb118 ?_)
    · refine W_sub [0] [0, 2, 7] (st' := ⟨[(0, .one (.e (.sl 0 0 x1.length))), (2, I i3), (7, I i94)], [.row .rcd x1 false]⟩) (by kernel_rfl) ?_
      refine W_skip ?_
      refine thenS_n ?_
      refine W_seq ?_
      refine W_block ?_
      refine W_seq ?_
      refine W_region ?_
      refine guardO_e h (fun hg128 h => ?_)
      refine WO_step 8 [0] [0, 2, 7, 22] ((0 ≤ i94 ∧ i94 < ((x1.length : Nat) : Int)) ∧ (True ∧ (True ∧ True))) ⟨[(0, .one (.e (.sl 0 0 x1.length))), (2, I i3), (7, I i94), (22, B (decide (((x1.getD i94.toNat drcd).who) = i3)))], [.row .rcd x1 false]⟩ (by kernel_rfl) ⟨hg128, trivial, trivial, trivial⟩ ?_
      refine bindO_e h (fun b131 hv132 h => ?_)
      refine WO_thru ⟨[(0, .one (.e (.sl 0 0 x1.length))), (2, I i3), (7, I i94), (28, B b131)], [.row .rcd x1 false]⟩ ?_ ?_
      · refine iteO_e hv132 (fun hb133 hv132 => WO_known 22 true rfl hb133 ?_) (fun hb133 hv132 => WO_known 22 false rfl hb133 ?_)
        · refine guardO_e hv132 (fun hg134 hv132 => ?_)
          refine WO_step 6 [0] [0, 2, 7, 28] ((0 ≤ i94 ∧ i94 < ((x1.length : Nat) : Int)) ∧ (True ∧ True)) ⟨[(0, .one (.e (.sl 0 0 x1.length))), (2, I i3), (7, I i94), (28, B ((x1.getD i94.toNat drcd).fin))], [.row .rcd x1 false]⟩ (by kernel_rfl) ⟨hg134, trivial, trivial⟩ ?_
          cases hv132
          exact WO_nil rfl ⟨rfl, rfl⟩
        · refine WO_step 6 [0] [0, 2, 7, 28] True ⟨[(0, .one (.e (.sl 0 0 x1.length))), (2, I i3), (7, I i94), (28, B false)], [.row .rcd x1 false]⟩ (by kernel_rfl) trivial ?_
          cases hv132
          exact WO_nil rfl ⟨rfl, rfl⟩
      · refine thenS_n ?_
        refine iteO_e h (fun hb136 h => W_true rfl hb136 ?_) (fun hb136 h => W_false rfl hb136 ?_)
        · refine W_seq ?_
          refine W_region ?_
          refine WO_step 1 [0] [6] True ⟨[(6, B true)], [.row .rcd x1 false]⟩ (by kernel_rfl) trivial ?_
          refine WO_nil rfl ?_
          refine thenS_n ?_
          refine W_ret ?_
          refine blockS_r ?_
          refine thenS_r ?_
          refine thenS_r ?_
          cases h
          exact And.intro rfl rfl
        · refine W_sub [0] [0, 2, 7] (st' := ⟨[(0, .one (.e (.sl 0 0 x1.length))), (2, I i3), (7, I i94)], [.row .rcd x1 false]⟩) (by kernel_rfl) ?_
          refine W_skip ?_
          refine blockS_n ?_
          refine thenS_n ?_
          refine W_region ?_
          refine WO_step 3 [0] [0, 2, 7] (True ∧ True) ⟨[(0, .one (.e (.sl 0 0 x1.length))), (2, I i3), (7, I (w64 (i94 + 1)))], [.row .rcd x1 false]⟩ (by kernel_rfl) ⟨trivial, trivial⟩ ?_
          refine WO_nil rfl ?_
          refine thenS_n ?_
          exact ih _ h
    · refine W_sub [0] [] (st' := ⟨[], [.row .rcd x1 false]⟩) (by kernel_rfl) ?_
      refine W_exit ?_
      refine thenS_e ?_
      refine thenS_e ?_
      cases h
      exact And.intro rfl rfl

def spec_ended (n : Nat) (x1 : List Rcd) (i2 : Int) (i3 : Int) : Option (Bool) :=
 bindO (spec_ended_L1 x1 i3 n i2) fun v137 =>
 match v137 with
 | (.inl _) => (some true)
 | (.inr _) => (some false)


theorem spec_ended_ok (n : Nat) (x1 : List Rcd) (i2 : Int) (i3 : Int) (b70 : Bool) (h : spec_ended n x1 i2 i3 = some b70) : FOk EE 44 [.one (.e (.sl 0 0 x1.length)), I i2, I i3] [.row .rcd x1 false] (B b70) [.row .rcd x1 false] := by
  unfold spec_ended at h
  refine FOk_of_W 29 1 Try.func44 rfl rfl (Nat.le_of_ble_eq_true rfl) rfl (fun w X θ => ?_)
  refine W_seq ?_
  refine W_region ?_
  refine WO_step 1 [0] [0, 1, 2] True ⟨[(0, .one (.e (.sl 0 0 x1.length))), (1, I i2), (2, I i3)], [.row .rcd x1 false]⟩ (by kernel_rfl) trivial ?_
  refine WO_nil rfl ?_
  refine thenS_n ?_
  refine W_seq ?_
  refine W_seq ?_
  refine W_region ?_
  refine WO_step 2 [0] [0, 2, 7] True ⟨[(0, .one (.e (.sl 0 0 x1.length))), (2, I i3), (7, I i2)], [.row .rcd x1 false]⟩ (by kernel_rfl) trivial ?_
  refine WO_nil rfl ?_
  refine thenS_n ?_
  refine W_block ?_
  refine W_loop ?_
  refine bindO_e h (fun v137 hv137 h => ?_)
  refine WL_cut (spec_ended_L1_ok w X θ x1 i3 v137 n i2 hv137) ?_
  rcases v137 with _ | _
  · rintro _ _ ⟨rfl, rfl⟩
    refine blockS_r ?_
    refine thenS_r ?_
    cases h
    exact ⟨[0], True, by kernel_rfl, trivial⟩
  · rintro _ _ ⟨rfl, rfl⟩
    refine blockS_y ?_
    refine thenS_n ?_
    refine W_seq ?_
    refine W_region ?_
    refine WO_step 1 [0] [6] True ⟨[(6, B false)], [.row .rcd x1 false]⟩ (by kernel_rfl) trivial ?_
    refine WO_nil rfl ?_
    refine thenS_n ?_
    refine W_ret ?_
    cases h
    exact ⟨[0], True, by kernel_rfl, trivial⟩

/- spec.replaced -/
def spec_replaced_L1 (x1 : List Rcd) (i2 : Int) : Nat → Int → Option ((Unit) ⊕ (Unit))
| 0, _ => none
| n + 1, i117 =>
 iteO (decide (i117 < ((x1.length : Nat) : Int)))
 (guardO (0 ≤ i117 ∧ i117 < ((x1.length : Nat) : Int)) <|
 bindO (iteO (!(x1.getD i117.toNat drcd).fin)
 (guardO (0 ≤ i117 ∧ i117 < ((x1.length : Nat) : Int)) <|
 guardO (0 ≤ i2 ∧ i2 < ((x1.length : Nat) : Int)) <|
 iteO (decide (((x1.getD i117.toNat drcd).node) = ((x1.getD i2.toNat drcd).node)))
 (guardO (0 ≤ i117 ∧ i117 < ((x1.length : Nat) : Int)) <|
 bindO (spec_ended n x1 (w64 (i117 + 1)) ((x1.getD i117.toNat drcd).who)) fun b166 =>
 some b166)
 (some false))
 (some false)) fun b168 =>
 iteO b168
 (some (.inl ()))
 (spec_replaced_L1 x1 i2 n (w64 (i117 + 1))))
 (some (.inr ()))

theorem spec_replaced_L1_ok (w : World) (X : Nat → Prop) (θ : List Loc) (x1 : List Rcd) (i2 : Int) (v : (Unit) ⊕ (Unit)) : ∀ (n : Nat) (i117 : Int), spec_replaced_L1 x1 i2 n i117 = some v → WL EE ⟨w, X, θ, 44, 1⟩ (subC [1, 0, 1, 4, 4] (bodyC Try.f51)) (fun (e : Exit) (s : St) => (match v with | (.inl _) => e = .ret ∧ s = ⟨[(4, B true)], [.row .rcd x1 false]⟩ | (.inr _) => e = .exit 0 ∧ s = ⟨[], [.row .rcd x1 false]⟩ : Prop)) ⟨[(0, .one (.e (.sl 0 0 x1.length))), (1, I i2), (5, I i117)], [.row .rcd x1 false]⟩ := by
  intro n
  induction n with
  | zero => intro _ h; exact none_e h
  | succ n ih =>
    intro i117 h
    rw [spec_replaced_L1] at h
    refine WL_round ?_
    refine W_seq ?_
    refine W_seq ?_
    refine W_region ?_
    refine WO_step 4 [0] [0, 1, 5, 11] (True ∧ (True ∧ True)) ⟨[(0, .one (.e (.sl 0 0 x1.length))), (1, I i2), (5, I i117), (11, B (decide (i117 < ((x1.length : Nat) : Int))))], [.row .rcd x1 false]⟩ (by kernel_rfl) ⟨trivial, trivial, trivial⟩ ?_
    refine WO_nil rfl ?_
    refine thenS_n ?_
    refine iteO_e h (fun hb147 h => W_true rfl hb147 ?_) (fun hb147 h => W_false rfl hb147 ?_)
    · refine W_sub [0] [0, 1, 5] (st' := ⟨[(0, .one (.e (.sl 0 0 x1.length))), (1, I i2), (5, I i117)], [.row .rcd x1 false]⟩) (by kernel_rfl) ?_
      refine W_skip ?_
      refine thenS_n ?_
      refine W_seq ?_
      refine W_block ?_
      refine W_seq ?_
      refine guardO_e h (fun hg160 h => ?_)
      refine bindO_e h (fun b168 hv169 h => ?_)
      refine W_cut (Q' := fun (e : Exit) (s : St) => e = .normal ∧ s = ⟨[(0, .one (.e (.sl 0 0 x1.length))), (1, I i2), (5, I i117), (43, B b168)], [.row .rcd x1 false]⟩) ?_ ?_
      · refine iteO_e hv169 (fun hb161 hv169 => ?_) (fun hb161 hv169 => ?_)
        · refine guardO_e hv169 (fun hg162 hv169 => ?_)
          refine guardO_e hv169 (fun hg163 hv169 => ?_)
          refine iteO_e hv169 (fun hb164 hv169 => ?_) (fun hb164 hv169 => ?_)
          · refine guardO_e hv169 (fun hg165 hv169 => ?_)
            refine bindO_e hv169 (fun b166 hc167 hv169 => ?_)
            refine W_draw [] false (by kernel_rfl) (by kernel_rfl) ?_
            refine WD_takeK [0, 1, 2, 3, 4, 5, 6] [0, 1, 5, 20] [0, 1, 5, 20] (φ := ((0 ≤ i117 ∧ i117 < ((x1.length : Nat) : Int)) ∧ (0 ≤ i117 ∧ i117 < ((x1.length : Nat) : Int)) ∧ (True ∧ True ∧ True))) (ls' := #[true, true, true, true, true, true, true, false, false, false, false, false, false, false, false, false, false, false, false, false, false, false, false, false, false, false, false, false, false, false]) (Ts' := [(0, .one (.e (.sl 0 0 x1.length))), (1, I i2), (5, I i117), (20, B (!(x1.getD i117.toNat drcd).fin))]) (st' := ⟨[(0, .one (.e (.sl 0 0 x1.length))), (1, I i2), (5, I i117), (20, B (!(x1.getD i117.toNat drcd).fin))], [.row .rcd x1 false]⟩) (n2 := 23) (by kernel_rfl) ⟨hg160, hg160, trivial, trivial, trivial⟩ rfl ?_
            refine WD_known 20 true rfl rfl hb161 ?_
            refine WD_takeK [7, 8, 9, 10, 11, 12, 13, 14, 15, 16, 17, 18, 19] [0, 1, 5, 33] [0, 1, 5, 33] (φ := ((0 ≤ i117 ∧ i117 < ((x1.length : Nat) : Int)) ∧ (0 ≤ i117 ∧ i117 < ((x1.length : Nat) : Int)) ∧ (True ∧ True ∧ ((0 ≤ i2 ∧ i2 < ((x1.length : Nat) : Int)) ∧ (0 ≤ i2 ∧ i2 < ((x1.length : Nat) : Int)) ∧ (True ∧ True ∧ (True ∧ True ∧ True)))))) (ls' := #[true, true, true, true, true, true, true, true, true, true, true, true, true, true, true, true, true, true, true, true, false, false, false, false, false, false, false, false, false, false]) (Ts' := [(0, .one (.e (.sl 0 0 x1.length))), (1, I i2), (5, I i117), (33, B (decide (((x1.getD i117.toNat drcd).node) = ((x1.getD i2.toNat drcd).node))))]) (st' := ⟨[(0, .one (.e (.sl 0 0 x1.length))), (1, I i2), (5, I i117), (33, B (decide (((x1.getD i117.toNat drcd).node) = ((x1.getD i2.toNat drcd).node))))], [.row .rcd x1 false]⟩) (n2 := 10) (by kernel_rfl) ⟨hg162, hg162, trivial, trivial, hg163, hg163, trivial, trivial, trivial, trivial, trivial⟩ rfl ?_
            refine WD_known 33 true rfl rfl hb164 ?_
            refine WD_takeK [20, 21, 22, 23, 24, 25, 26, 27] [0, 1, 5, 33, 34, 36, 41] [0, 1, 5, 33, 34, 36, 41] (φ := (True ∧ True ∧ ((0 ≤ i117 ∧ i117 < ((x1.length : Nat) : Int)) ∧ (0 ≤ i117 ∧ i117 < ((x1.length : Nat) : Int)) ∧ (True ∧ True ∧ True)))) (ls' := #[true, true, true, true, true, true, true, true, true, true, true, true, true, true, true, true, true, true, true, true, true, true, true, true, true, true, true, true, false, false]) (Ts' := [(0, .one (.e (.sl 0 0 x1.length))), (1, I i2), (5, I i117), (33, B true), (34, .one (.e (.sl 0 0 x1.length))), (36, I (w64 (i117 + 1))), (41, I ((x1.getD i117.toNat drcd).who))]) (st' := ⟨[(0, .one (.e (.sl 0 0 x1.length))), (1, I i2), (5, I i117), (33, B true), (34, .one (.e (.sl 0 0 x1.length))), (36, I (w64 (i117 + 1))), (41, I ((x1.getD i117.toNat drcd).who))], [.row .rcd x1 false]⟩) (n2 := 2) (by kernel_rfl) ⟨trivial, trivial, hg165, hg165, trivial, trivial, trivial⟩ rfl ?_
            refine WD_all [28] (n := 1) (by kernel_rfl) rfl ?_
            refine WM_call [.ro 0] Try.f44 rfl rfl (by kernel_rfl) rfl rfl (by kernel_rfl) (spec_ended_ok n x1 (w64 (i117 + 1)) ((x1.getD i117.toNat drcd).who) b166 hc167) (And.intro (And.intro rfl rfl) (trivial)) rfl (And.intro rfl (trivial)) ?_
            refine WD_takeK [29] [0, 1, 5, 43] [0, 1, 5, 43] (φ := True) (ls' := #[true, true, true, true, true, true, true, true, true, true, true, true, true, true, true, true, true, true, true, true, true, true, true, true, true, true, true, true, true, true]) (Ts' := [(0, .one (.e (.sl 0 0 x1.length))), (1, I i2), (5, I i117), (43, B b166)]) (st' := ⟨[(0, .one (.e (.sl 0 0 x1.length))), (1, I i2), (5, I i117), (43, B b166)], [.row .rcd x1 false]⟩) (n2 := 0) (by kernel_rfl) trivial rfl ?_
            exact WD_done [0] [0, 1, 5, 43] (st' := ⟨[(0, .one (.e (.sl 0 0 x1.length))), (1, I i2), (5, I i117), (43, B b166)], [.row .rcd x1 false]⟩) (by kernel_rfl) (by kernel_rfl) (And.intro rfl (by cases hv169; rfl))
          · refine W_draw [] false (by kernel_rfl) (by kernel_rfl) ?_
            refine WD_takeK [0, 1, 2, 3, 4, 5, 6] [0, 1, 5, 20] [0, 1, 5, 20] (φ := ((0 ≤ i117 ∧ i117 < ((x1.length : Nat) : Int)) ∧ (0 ≤ i117 ∧ i117 < ((x1.length : Nat) : Int)) ∧ (True ∧ True ∧ True))) (ls' := #[true, true, true, true, true, true, true, false, false, false, false, false, false, false, false, false, false, false, false, false, false, false, false, false, false, false, false, false, false, false]) (Ts' := [(0, .one (.e (.sl 0 0 x1.length))), (1, I i2), (5, I i117), (20, B (!(x1.getD i117.toNat drcd).fin))]) (st' := ⟨[(0, .one (.e (.sl 0 0 x1.length))), (1, I i2), (5, I i117), (20, B (!(x1.getD i117.toNat drcd).fin))], [.row .rcd x1 false]⟩) (n2 := 23) (by kernel_rfl) ⟨hg160, hg160, trivial, trivial, trivial⟩ rfl ?_
            refine WD_known 20 true rfl rfl hb161 ?_
            refine WD_takeK [7, 8, 9, 10, 11, 12, 13, 14, 15, 16, 17, 18, 19] [0, 1, 5, 33] [0, 1, 5, 33] (φ := ((0 ≤ i117 ∧ i117 < ((x1.length : Nat) : Int)) ∧ (0 ≤ i117 ∧ i117 < ((x1.length : Nat) : Int)) ∧ (True ∧ True ∧ ((0 ≤ i2 ∧ i2 < ((x1.length : Nat) : Int)) ∧ (0 ≤ i2 ∧ i2 < ((x1.length : Nat) : Int)) ∧ (True ∧ True ∧ (True ∧ True ∧ True)))))) (ls' := #[true, true, true, true, true, true, true, true, true, true, true, true, true, true, true, true, true, true, true, true, false, false, false, false, false, false, false, false, false, false]) (Ts' := [(0, .one (.e (.sl 0 0 x1.length))), (1, I i2), (5, I i117), (33, B (decide (((x1.getD i117.toNat drcd).node) = ((x1.getD i2.toNat drcd).node))))]) (st' := ⟨[(0, .one (.e (.sl 0 0 x1.length))), (1, I i2), (5, I i117), (33, B (decide (((x1.getD i117.toNat drcd).node) = ((x1.getD i2.toNat drcd).node))))], [.row .rcd x1 false]⟩) (n2 := 10) (by kernel_rfl) ⟨hg162, hg162, trivial, trivial, hg163, hg163, trivial, trivial, trivial, trivial, trivial⟩ rfl ?_
            refine WD_known 33 false rfl rfl hb164 ?_
            refine WD_takeK [20, 21, 22, 23, 24, 25, 26, 27, 28, 29] [0, 1, 5, 43] [0, 1, 5, 43] (φ := True) (ls' := #[true, true, true, true, true, true, true, true, true, true, true, true, true, true, true, true, true, true, true, true, true, true, true, true, true, true, true, true, true, true]) (Ts' := [(0, .one (.e (.sl 0 0 x1.length))), (1, I i2), (5, I i117), (43, B false)]) (st' := ⟨[(0, .one (.e (.sl 0 0 x1.length))), (1, I i2), (5, I i117), (43, B false)], [.row .rcd x1 false]⟩) (n2 := 0) (by kernel_rfl) trivial rfl ?_
            exact WD_done [0] [0, 1, 5, 43] (st' := ⟨[(0, .one (.e (.sl 0 0 x1.length))), (1, I i2), (5, I i117), (43, B false)], [.row .rcd x1 false]⟩) (by kernel_rfl) (by kernel_rfl) (And.intro rfl (by cases hv169; rfl))
        · refine W_draw [] false (by kernel_rfl) (by kernel_rfl) ?_
          refine WD_takeK [0, 1, 2, 3, 4, 5, 6] [0, 1, 5, 20] [0, 1, 5, 20] (φ := ((0 ≤ i117 ∧ i117 < ((x1.length : Nat) : Int)) ∧ (0 ≤ i117 ∧ i117 < ((x1.length : Nat) : Int)) ∧ (True ∧ True ∧ True))) (ls' := #[true, true, true, true, true, true, true, false, false, false, false, false, false, false, false, false, false, false, false, false, false, false, false, false, false, false, false, false, false, false]) (Ts' := [(0, .one (.e (.sl 0 0 x1.length))), (1, I i2), (5, I i117), (20, B (!(x1.getD i117.toNat drcd).fin))]) (st' := ⟨[(0, .one (.e (.sl 0 0 x1.length))), (1, I i2), (5, I i117), (20, B (!(x1.getD i117.toNat drcd).fin))], [.row .rcd x1 false]⟩) (n2 := 23) (by kernel_rfl) ⟨hg160, hg160, trivial, trivial, trivial⟩ rfl ?_
          refine WD_known 20 false rfl rfl hb161 ?_
          refine WD_takeK [7, 8, 9, 10, 11, 12, 13, 14, 15, 16, 17, 18, 19, 20, 21, 22, 23, 24, 25, 26, 27, 28, 29] [0, 1, 5, 43] [0, 1, 5, 43] (φ := True) (ls' := #[true, true, true, true, true, true, true, true, true, true, true, true, true, true, true, true, true, true, true, true, true, true, true, true, true, true, true, true, true, true]) (Ts' := [(0, .one (.e (.sl 0 0 x1.length))), (1, I i2), (5, I i117), (43, B false)]) (st' := ⟨[(0, .one (.e (.sl 0 0 x1.length))), (1, I i2), (5, I i117), (43, B false)], [.row .rcd x1 false]⟩) (n2 := 0) (by kernel_rfl) trivial rfl ?_
          exact WD_done [0] [0, 1, 5, 43] (st' := ⟨[(0, .one (.e (.sl 0 0 x1.length))), (1, I i2), (5, I i117), (43, B false)], [.row .rcd x1 false]⟩) (by kernel_rfl) (by kernel_rfl) (And.intro rfl (by cases hv169; rfl))
      · rintro _ _ ⟨rfl, rfl⟩
        refine thenS_n ?_
        refine iteO_e h (fun hb171 h => W_true rfl hb171 ?_) (fun hb171 h => W_false rfl hb171 ?_)
        · refine W_seq ?_
          refine W_region ?_
          refine WO_step 1 [0] [4] True ⟨[(4, B true)], [.row .rcd x1 false]⟩ (by kernel_rfl) trivial ?_
          refine WO_nil rfl ?_
          refine thenS_n ?_
          refine W_ret ?_
          refine blockS_r ?_
          refine thenS_r ?_
          refine thenS_r ?_
          cases h
          exact And.intro rfl rfl
        · refine W_sub [0] [0, 1, 5] (st' := ⟨[(0, .one (.e (.sl 0 0 x1.length))), (1, I i2), (5, I i117)], [.row .rcd x1 false]⟩) (by kernel_rfl) ?_
          refine W_skip ?_
          refine blockS_n ?_
          refine thenS_n ?_
          refine W_region ?_
          refine WO_step 3 [0] [0, 1, 5] (True ∧ True) ⟨[(0, .one (.e (.sl 0 0 x1.length))), (1, I i2), (5, I (w64 (i117 + 1)))], [.row .rcd x1 false]⟩ (by kernel_rfl) ⟨trivial, trivial⟩ ?_
          refine WO_nil rfl ?_
          refine thenS_n ?_
          exact ih _ h
    · refine W_sub [0] [] (st' := ⟨[], [.row .rcd x1 false]⟩) (by kernel_rfl) ?_
      refine W_exit ?_
      refine thenS_e ?_
      refine thenS_e ?_
      cases h
      exact And.intro rfl rfl

def spec_replaced (n : Nat) (x1 : List Rcd) (i2 : Int) : Option (Bool) :=
 bindO (spec_replaced_L1 x1 i2 n (w64 (i2 + 1))) fun v172 =>
 match v172 with
 | (.inl _) => (some true)
 | (.inr _) => (some false)


theorem spec_replaced_ok (n : Nat) (x1 : List Rcd) (i2 : Int) (b87 : Bool) (h : spec_replaced n x1 i2 = some b87) : FOk EE 51 [.one (.e (.sl 0 0 x1.length)), I i2] [.row .rcd x1 false] (B b87) [.row .rcd x1 false] := by
  unfold spec_replaced at h
  refine FOk_of_W 44 1 Try.func51 rfl rfl (Nat.le_of_ble_eq_true rfl) rfl (fun w X θ => ?_)
  refine W_seq ?_
  refine W_region ?_
  refine WO_step 1 [0] [0, 1] True ⟨[(0, .one (.e (.sl 0 0 x1.length))), (1, I i2)], [.row .rcd x1 false]⟩ (by kernel_rfl) trivial ?_
  refine WO_nil rfl ?_
  refine thenS_n ?_
  refine W_seq ?_
  refine W_seq ?_
  refine W_region ?_
  refine WO_step 3 [0] [0, 1, 5] (True ∧ True) ⟨[(0, .one (.e (.sl 0 0 x1.length))), (1, I i2), (5, I (w64 (i2 + 1)))], [.row .rcd x1 false]⟩ (by kernel_rfl) ⟨trivial, trivial⟩ ?_
  refine WO_nil rfl ?_
  refine thenS_n ?_
  refine W_block ?_
  refine W_loop ?_
  refine bindO_e h (fun v172 hv172 h => ?_)
  refine WL_cut (spec_replaced_L1_ok w X θ x1 i2 v172 n (w64 (i2 + 1)) hv172) ?_
  rcases v172 with _ | _
  · rintro _ _ ⟨rfl, rfl⟩
    refine blockS_r ?_
    refine thenS_r ?_
    cases h
    exact ⟨[0], True, by kernel_rfl, trivial⟩
  · rintro _ _ ⟨rfl, rfl⟩
    refine blockS_y ?_
    refine thenS_n ?_
    refine W_seq ?_
    refine W_region ?_
    refine WO_step 1 [0] [4] True ⟨[(4, B false)], [.row .rcd x1 false]⟩ (by kernel_rfl) trivial ?_
    refine WO_nil rfl ?_
    refine thenS_n ?_
    refine W_ret ?_
    cases h
    exact ⟨[0], True, by kernel_rfl, trivial⟩

/- spec.ShortLog -/
def spec_ShortLog_L1 (x2 : List Rcd) (x1 : List Nod) : Nat → (List Rcd) → (List Int) → Int → Option ((List Rcd))
| 0, _, _, _ => none
| n + 1, x220, x221, i222 =>
 iteO (decide (i222 < ((x2.length : Nat) : Int)))
 (bindO (guardO (0 ≤ i222 ∧ i222 < ((x2.length : Nat) : Int)) <|
 iteO ((x2.getD i222.toNat drcd).fin)
 (bindO (spec_isIn n x221 ((x2.getD i222.toNat drcd).who)) fun b324 =>
 bindO (iteO b324
 (guardO (0 = 0 ∧ x220.length = x220.length ∧ x220.length + (([(⟨(x2.getD i222.toNat drcd).who, (x2.getD i222.toNat drcd).node, (x2.getD i222.toNat drcd).value, (x2.getD i222.toNat drcd).fin⟩ : Rcd)].drop 0).take ([(⟨(x2.getD i222.toNat drcd).who, (x2.getD i222.toNat drcd).node, (x2.getD i222.toNat drcd).value, (x2.getD i222.toNat drcd).fin⟩ : Rcd)].length)).length ≤ 1099511627776) <|
 bindO (spec_leave n x221 ((x2.getD i222.toNat drcd).who)) fun x335 =>
 some ((x220 ++ (([(⟨(x2.getD i222.toNat drcd).who, (x2.getD i222.toNat drcd).node, (x2.getD i222.toNat drcd).value, (x2.getD i222.toNat drcd).fin⟩ : Rcd)].drop 0).take ([(⟨(x2.getD i222.toNat drcd).who, (x2.getD i222.toNat drcd).node, (x2.getD i222.toNat drcd).value, (x2.getD i222.toNat drcd).fin⟩ : Rcd)].length))), x335))
 (some (x220, x221))) fun v332 =>
 match v332 with
 | (x330, x331) => (some (x330, x331))
)
 (bindO (spec_ended n x2 (w64 (i222 + 1)) ((x2.getD i222.toNat drcd).who)) fun b337 =>
 bindO (iteO b337
 (bindO (spec_replaced n x2 i222) fun b345 =>
 some (!b345))
 (some false)) fun b342 =>
 bindO (iteO b342
 (guardO (0 = 0 ∧ x220.length = x220.length ∧ x220.length + (([(⟨(x2.getD i222.toNat drcd).who, (x2.getD i222.toNat drcd).node, (x2.getD i222.toNat drcd).value, (x2.getD i222.toNat drcd).fin⟩ : Rcd)].drop 0).take ([(⟨(x2.getD i222.toNat drcd).who, (x2.getD i222.toNat drcd).node, (x2.getD i222.toNat drcd).value, (x2.getD i222.toNat drcd).fin⟩ : Rcd)].length)).length ≤ 1099511627776) <|
 guardO (0 = 0 ∧ x221.length = x221.length ∧ x221.length + (([(x2.getD i222.toNat drcd).who].drop 0).take ([(x2.getD i222.toNat drcd).who].length)).length ≤ 1099511627776) <|
 some ((x220 ++ (([(⟨(x2.getD i222.toNat drcd).who, (x2.getD i222.toNat drcd).node, (x2.getD i222.toNat drcd).value, (x2.getD i222.toNat drcd).fin⟩ : Rcd)].drop 0).take ([(⟨(x2.getD i222.toNat drcd).who, (x2.getD i222.toNat drcd).node, (x2.getD i222.toNat drcd).value, (x2.getD i222.toNat drcd).fin⟩ : Rcd)].length))), (x221 ++ (([(x2.getD i222.toNat drcd).who].drop 0).take ([(x2.getD i222.toNat drcd).who].length)))))
 (some (x220, x221))) fun v352 =>
 match v352 with
 | (x350, x351) => (some (x350, x351))
)) fun v311 =>
 match v311 with
 | (x309, x310) => (spec_ShortLog_L1 x2 x1 n x309 x310 (w64 (i222 + 1)))
)
 (some x220)

theorem spec_ShortLog_L1_ok (w : World) (X : Nat → Prop) (θ : List Loc) (x2 : List Rcd) (x1 : List Nod) (x268 : (List Rcd)) : ∀ (n : Nat) (x220 : List Rcd) (x221 : List Int) (i222 : Int), spec_ShortLog_L1 x2 x1 n x220 x221 i222 = some x268 → WL EE ⟨w, X, θ, 66, 2⟩ (subC [1, 1, 1, 1, 0, 1, 4, 4] (bodyC Try.f25)) (fun (e : Exit) (s : St) => e = .exit 0 ∧ s = ⟨[(5, .one (.e (.sl 2 0 x268.length)))], [.row .nod x1 false, .row .rcd x2 false, .row .rcd x268 true]⟩) ⟨[(1, .one (.e (.sl 1 0 x2.length))), (5, .one (.e (.sl 2 0 x220.length))), (6, .one (.e (.sl 3 0 x221.length))), (7, I i222)], [.row .nod x1 false, .row .rcd x2 false, .row .rcd x220 true, .row .int x221 true]⟩ := by
  intro n
  induction n with
  | zero => intro _ _ _ h; exact none_e h
  | succ n ih =>
    intro x220 x221 i222 h
    rw [spec_ShortLog_L1] at h
    refine WL_round ?_
    refine W_seq ?_
    refine W_seq ?_
    refine W_region ?_
    refine WO_step 4 [0, 1, 2, 3] [1, 5, 6, 7, 23] (True ∧ (True ∧ True)) ⟨[(1, .one (.e (.sl 1 0 x2.length))), (5, .one (.e (.sl 2 0 x220.length))), (6, .one (.e (.sl 3 0 x221.length))), (7, I i222), (23, B (decide (i222 < ((x2.length : Nat) : Int))))], [.row .nod x1 false, .row .rcd x2 false, .row .rcd x220 true, .row .int x221 true]⟩ (by kernel_rfl) ⟨trivial, trivial, trivial⟩ ?_
    refine WO_nil rfl ?_
    refine thenS_n ?_
    refine iteO_e h (fun hb271 h => W_true rfl hb271 ?_) (fun hb271 h => W_false rfl hb271 ?_)
    · refine W_sub [0, 1, 2, 3] [1, 5, 6, 7] (st' := ⟨[(1, .one (.e (.sl 1 0 x2.length))), (5, .one (.e (.sl 2 0 x220.length))), (6, .one (.e (.sl 3 0 x221.length))), (7, I i222)], [.row .nod x1 false, .row .rcd x2 false, .row .rcd x220 true, .row .int x221 true]⟩) (by kernel_rfl) ?_
      refine W_skip ?_
      refine thenS_n ?_
      refine W_seq ?_
      refine bindO_e h (fun v311 hv311 h => ?_)
      refine W_cut (Q' := fun (e : Exit) (s : St) => (match v311 with | (x309, x310) => e = .normal ∧ s = ⟨[(1, .one (.e (.sl 1 0 x2.length))), (5, .one (.e (.sl 2 0 x309.length))), (6, .one (.e (.sl 3 0 x310.length))), (7, I i222)], [.row .nod x1 false, .row .rcd x2 false, .row .rcd x309 true, .row .int x310 true]⟩ : Prop)) ?_ ?_
      · refine W_block ?_
        refine W_seq ?_
        refine W_region ?_
        refine guardO_e hv311 (fun hg312 hv311 => ?_)
        refine WO_step 6 [0, 1, 2, 3, 4] [1, 5, 6, 7, 8] ((0 ≤ i222 ∧ i222 < ((x2.length : Nat) : Int)) ∧ (True ∧ (True ∧ (True ∧ True)))) ⟨[(1, .one (.e (.sl 1 0 x2.length))), (5, .one (.e (.sl 2 0 x220.length))), (6, .one (.e (.sl 3 0 x221.length))), (7, I i222), (8, .one (.e (.p 4 0)))], [.row .nod x1 false, .row .rcd x2 false, .row .rcd x220 true, .row .int x221 true, .cells [cI ((x2.getD i222.toNat drcd).who), cI ((x2.getD i222.toNat drcd).node), cI ((x2.getD i222.toNat drcd).value), cB ((x2.getD i222.toNat drcd).fin)]]⟩ (by kernel_rfl) ⟨hg312, trivial, trivial, trivial, trivial⟩ ?_
        refine WO_nil rfl ?_
        refine thenS_n ?_
        refine W_seq ?_
        refine W_seq ?_
        refine W_region ?_
        refine WO_step 2 [0, 1, 2, 3, 4] [1, 5, 6, 7, 8, 31] (True ∧ True) ⟨[(1, .one (.e (.sl 1 0 x2.length))), (5, .one (.e (.sl 2 0 x220.length))), (6, .one (.e (.sl 3 0 x221.length))), (7, I i222), (8, .one (.e (.p 4 0))), (31, B ((x2.getD i222.toNat drcd).fin))], [.row .nod x1 false, .row .rcd x2 false, .row .rcd x220 true, .row .int x221 true, .cells [cI ((x2.getD i222.toNat drcd).who), cI ((x2.getD i222.toNat drcd).node), cI ((x2.getD i222.toNat drcd).value), cB ((x2.getD i222.toNat drcd).fin)]]⟩ (by kernel_rfl) ⟨trivial, trivial⟩ ?_
        refine WO_nil rfl ?_
        refine thenS_n ?_
        refine iteO_e hv311 (fun hb323 hv311 => W_true rfl hb323 ?_) (fun hb323 hv311 => W_false rfl hb323 ?_)
        · refine W_seq ?_
          refine W_seq ?_
          refine W_region ?_
          refine WO_step 3 [0, 1, 2, 3, 4] [1, 5, 6, 7, 8, 32, 34] (True ∧ True) ⟨[(1, .one (.e (.sl 1 0 x2.length))), (5, .one (.e (.sl 2 0 x220.length))), (6, .one (.e (.sl 3 0 x221.length))), (7, I i222), (8, .one (.e (.p 4 0))), (32, .one (.e (.sl 3 0 x221.length))), (34, I ((x2.getD i222.toNat drcd).who))], [.row .nod x1 false, .row .rcd x2 false, .row .rcd x220 true, .row .int x221 true, .cells [cI ((x2.getD i222.toNat drcd).who), cI ((x2.getD i222.toNat drcd).node), cI ((x2.getD i222.toNat drcd).value), cB ((x2.getD i222.toNat drcd).fin)]]⟩ (by kernel_rfl) ⟨trivial, trivial⟩ ?_
          refine bindO_e hv311 (fun b324 hc325 hv311 => ?_)
          refine WO_call [.ro 3] Try.f49 rfl rfl rfl (by kernel_rfl) rfl rfl (by kernel_rfl) (spec_isIn_ok n x221 ((x2.getD i222.toNat drcd).who) b324 hc325) (And.intro (And.intro rfl rfl) (trivial)) rfl ?_
          refine WO_sub [0, 1, 2, 3, 4] [1, 5, 6, 7, 8, 35] (st' := ⟨[(1, .one (.e (.sl 1 0 x2.length))), (5, .one (.e (.sl 2 0 x220.length))), (6, .one (.e (.sl 3 0 x221.length))), (7, I i222), (8, .one (.e (.p 4 0))), (35, B b324)], [.row .nod x1 false, .row .rcd x2 false, .row .rcd x220 true, .row .int x221 true, .cells [cI ((x2.getD i222.toNat drcd).who), cI ((x2.getD i222.toNat drcd).node), cI ((x2.getD i222.toNat drcd).value), cB ((x2.getD i222.toNat drcd).fin)]]⟩) (by kernel_rfl) ?_
          refine WO_nil rfl ?_
          refine thenS_n ?_
          refine bindO_e hv311 (fun v332 hv332 hv311 => ?_)
          refine W_cut (Q' := fun (e : Exit) (s : St) => (match v332 with | (x330, x331) => e = .normal ∧ s = ⟨[(1, .one (.e (.sl 1 0 x2.length))), (5, .one (.e (.sl 2 0 x330.length))), (6, .one (.e (.sl 3 0 x331.length))), (7, I i222)], [.row .nod x1 false, .row .rcd x2 false, .row .rcd x330 true, .row .int x331 true]⟩ : Prop)) ?_ ?_
          · refine iteO_e hv332 (fun hb333 hv332 => W_true rfl hb333 ?_) (fun hb333 hv332 => W_false rfl hb333 ?_)
            · refine W_seq ?_
              refine W_region ?_
              refine guardO_e hv332 (fun hg334 hv332 => ?_)
              refine WO_step 5 [0, 1, 6, 3, 4] [1, 5, 6, 7, 8] (True ∧ ((0 = 0 ∧ x220.length = x220.length ∧ x220.length + (([(⟨(x2.getD i222.toNat drcd).who, (x2.getD i222.toNat drcd).node, (x2.getD i222.toNat drcd).value, (x2.getD i222.toNat drcd).fin⟩ : Rcd)].drop 0).take ([(⟨(x2.getD i222.toNat drcd).who, (x2.getD i222.toNat drcd).node, (x2.getD i222.toNat drcd).value, (x2.getD i222.toNat drcd).fin⟩ : Rcd)].length)).length ≤ 1099511627776) ∧ True)) ⟨[(1, .one (.e (.sl 1 0 x2.length))), (5, .one (.e (.sl 2 0 ((x220 ++ (([(⟨(x2.getD i222.toNat drcd).who, (x2.getD i222.toNat drcd).node, (x2.getD i222.toNat drcd).value, (x2.getD i222.toNat drcd).fin⟩ : Rcd)].drop 0).take ([(⟨(x2.getD i222.toNat drcd).who, (x2.getD i222.toNat drcd).node, (x2.getD i222.toNat drcd).value, (x2.getD i222.toNat drcd).fin⟩ : Rcd)].length))).length)))), (6, .one (.e (.sl 3 0 x221.length))), (7, I i222), (8, .one (.e (.p 4 0)))], [.row .nod x1 false, .row .rcd x2 false, .row .rcd (x220 ++ (([(⟨(x2.getD i222.toNat drcd).who, (x2.getD i222.toNat drcd).node, (x2.getD i222.toNat drcd).value, (x2.getD i222.toNat drcd).fin⟩ : Rcd)].drop 0).take ([(⟨(x2.getD i222.toNat drcd).who, (x2.getD i222.toNat drcd).node, (x2.getD i222.toNat drcd).value, (x2.getD i222.toNat drcd).fin⟩ : Rcd)].length))) true, .row .int x221 true, .cells [cI ((x2.getD i222.toNat drcd).who), cI ((x2.getD i222.toNat drcd).node), cI ((x2.getD i222.toNat drcd).value), cB ((x2.getD i222.toNat drcd).fin)]]⟩ (by kernel_rfl) ⟨trivial, hg334, trivial⟩ ?_
              refine WO_nil rfl ?_
              refine thenS_n ?_
              refine W_region ?_
              refine WO_step 3 [0, 1, 2, 3] [1, 5, 7, 40, 42] (True ∧ True) ⟨[(1, .one (.e (.sl 1 0 x2.length))), (5, .one (.e (.sl 2 0 ((x220 ++ (([(⟨(x2.getD i222.toNat drcd).who, (x2.getD i222.toNat drcd).node, (x2.getD i222.toNat drcd).value, (x2.getD i222.toNat drcd).fin⟩ : Rcd)].drop 0).take ([(⟨(x2.getD i222.toNat drcd).who, (x2.getD i222.toNat drcd).node, (x2.getD i222.toNat drcd).value, (x2.getD i222.toNat drcd).fin⟩ : Rcd)].length))).length)))), (7, I i222), (40, .one (.e (.sl 3 0 x221.length))), (42, I ((x2.getD i222.toNat drcd).who))], [.row .nod x1 false, .row .rcd x2 false, .row .rcd (x220 ++ (([(⟨(x2.getD i222.toNat drcd).who, (x2.getD i222.toNat drcd).node, (x2.getD i222.toNat drcd).value, (x2.getD i222.toNat drcd).fin⟩ : Rcd)].drop 0).take ([(⟨(x2.getD i222.toNat drcd).who, (x2.getD i222.toNat drcd).node, (x2.getD i222.toNat drcd).value, (x2.getD i222.toNat drcd).fin⟩ : Rcd)].length))) true, .row .int x221 true]⟩ (by kernel_rfl) ⟨trivial, trivial⟩ ?_
              refine bindO_e hv332 (fun x335 hc336 hv332 => ?_)
              refine WO_call [.ro 3] Try.f50 rfl rfl rfl (by kernel_rfl) rfl rfl (by kernel_rfl) (spec_leave_ok n x221 ((x2.getD i222.toNat drcd).who) x335 hc336) (And.intro (And.intro rfl rfl) (trivial)) rfl ?_
              refine WO_step 1 [0, 1, 2, 4] [1, 5, 6, 7] True ⟨[(1, .one (.e (.sl 1 0 x2.length))), (5, .one (.e (.sl 2 0 ((x220 ++ (([(⟨(x2.getD i222.toNat drcd).who, (x2.getD i222.toNat drcd).node, (x2.getD i222.toNat drcd).value, (x2.getD i222.toNat drcd).fin⟩ : Rcd)].drop 0).take ([(⟨(x2.getD i222.toNat drcd).who, (x2.getD i222.toNat drcd).node, (x2.getD i222.toNat drcd).value, (x2.getD i222.toNat drcd).fin⟩ : Rcd)].length))).length)))), (6, .one (.e (.sl 3 0 x335.length))), (7, I i222)], [.row .nod x1 false, .row .rcd x2 false, .row .rcd (x220 ++ (([(⟨(x2.getD i222.toNat drcd).who, (x2.getD i222.toNat drcd).node, (x2.getD i222.toNat drcd).value, (x2.getD i222.toNat drcd).fin⟩ : Rcd)].drop 0).take ([(⟨(x2.getD i222.toNat drcd).who, (x2.getD i222.toNat drcd).node, (x2.getD i222.toNat drcd).value, (x2.getD i222.toNat drcd).fin⟩ : Rcd)].length))) true, .row .int x335 true]⟩ (by kernel_rfl) trivial ?_
              refine WO_nil rfl ?_
              cases hv332
              exact And.intro rfl rfl
            · refine W_sub [0, 1, 2, 3] [1, 5, 6, 7] (st' := ⟨[(1, .one (.e (.sl 1 0 x2.length))), (5, .one (.e (.sl 2 0 x220.length))), (6, .one (.e (.sl 3 0 x221.length))), (7, I i222)], [.row .nod x1 false, .row .rcd x2 false, .row .rcd x220 true, .row .int x221 true]⟩) (by kernel_rfl) ?_
              refine W_skip ?_
              cases hv332
              exact And.intro rfl rfl
          · obtain ⟨x330, x331⟩ := v332
            rintro _ _ ⟨rfl, rfl⟩
            refine thenS_n ?_
            refine W_exit ?_
            refine thenS_e ?_
            refine blockS_y ?_
            cases hv311
            exact And.intro rfl rfl
        · refine W_sub [0, 1, 2, 3, 4] [1, 5, 6, 7, 8] (st' := ⟨[(1, .one (.e (.sl 1 0 x2.length))), (5, .one (.e (.sl 2 0 x220.length))), (6, .one (.e (.sl 3 0 x221.length))), (7, I i222), (8, .one (.e (.p 4 0)))], [.row .nod x1 false, .row .rcd x2 false, .row .rcd x220 true, .row .int x221 true, .cells [cI ((x2.getD i222.toNat drcd).who), cI ((x2.getD i222.toNat drcd).node), cI ((x2.getD i222.toNat drcd).value), cB ((x2.getD i222.toNat drcd).fin)]]⟩) (by kernel_rfl) ?_
          refine W_skip ?_
          refine thenS_n ?_
          refine W_seq ?_
          refine W_region ?_
          refine WO_step 5 [0, 1, 2, 3, 4] [1, 5, 6, 7, 8, 44, 46, 48] (True ∧ (True ∧ True)) ⟨[(1, .one (.e (.sl 1 0 x2.length))), (5, .one (.e (.sl 2 0 x220.length))), (6, .one (.e (.sl 3 0 x221.length))), (7, I i222), (8, .one (.e (.p 4 0))), (44, .one (.e (.sl 1 0 x2.length))), (46, I (w64 (i222 + 1))), (48, I ((x2.getD i222.toNat drcd).who))], [.row .nod x1 false, .row .rcd x2 false, .row .rcd x220 true, .row .int x221 true, .cells [cI ((x2.getD i222.toNat drcd).who), cI ((x2.getD i222.toNat drcd).node), cI ((x2.getD i222.toNat drcd).value), cB ((x2.getD i222.toNat drcd).fin)]]⟩ (by kernel_rfl) ⟨trivial, trivial, trivial⟩ ?_
          refine bindO_e hv311 (fun b337 hc338 hv311 => ?_)
          refine WO_call [.ro 1] Try.f44 rfl rfl rfl (by kernel_rfl) rfl rfl (by kernel_rfl) (spec_ended_ok n x2 (w64 (i222 + 1)) ((x2.getD i222.toNat drcd).who) b337 hc338) (And.intro (And.intro rfl rfl) (trivial)) rfl ?_
          refine WO_step 1 [0, 1, 2, 3, 4] [1, 5, 6, 7, 8, 50] True ⟨[(1, .one (.e (.sl 1 0 x2.length))), (5, .one (.e (.sl 2 0 x220.length))), (6, .one (.e (.sl 3 0 x221.length))), (7, I i222), (8, .one (.e (.p 4 0))), (50, B b337)], [.row .nod x1 false, .row .rcd x2 false, .row .rcd x220 true, .row .int x221 true, .cells [cI ((x2.getD i222.toNat drcd).who), cI ((x2.getD i222.toNat drcd).node), cI ((x2.getD i222.toNat drcd).value), cB ((x2.getD i222.toNat drcd).fin)]]⟩ (by kernel_rfl) trivial ?_
          refine bindO_e hv311 (fun b342 hv343 hv311 => ?_)
          refine WO_thru ⟨[(1, .one (.e (.sl 1 0 x2.length))), (5, .one (.e (.sl 2 0 x220.length))), (6, .one (.e (.sl 3 0 x221.length))), (7, I i222), (8, .one (.e (.p 4 0))), (55, B b342)], [.row .nod x1 false, .row .rcd x2 false, .row .rcd x220 true, .row .int x221 true, .cells [cI ((x2.getD i222.toNat drcd).who), cI ((x2.getD i222.toNat drcd).node), cI ((x2.getD i222.toNat drcd).value), cB ((x2.getD i222.toNat drcd).fin)]]⟩ ?_ ?_
          · refine iteO_e hv343 (fun hb344 hv343 => WO_known 50 true rfl hb344 ?_) (fun hb344 hv343 => WO_known 50 false rfl hb344 ?_)
            · refine WO_step 2 [0, 1, 2, 3, 4] [1, 5, 6, 7, 8, 50, 51, 52] True ⟨[(1, .one (.e (.sl 1 0 x2.length))), (5, .one (.e (.sl 2 0 x220.length))), (6, .one (.e (.sl 3 0 x221.length))), (7, I i222), (8, .one (.e (.p 4 0))), (50, B true), (51, .one (.e (.sl 1 0 x2.length))), (52, I i222)], [.row .nod x1 false, .row .rcd x2 false, .row .rcd x220 true, .row .int x221 true, .cells [cI ((x2.getD i222.toNat drcd).who), cI ((x2.getD i222.toNat drcd).node), cI ((x2.getD i222.toNat drcd).value), cB ((x2.getD i222.toNat drcd).fin)]]⟩ (by kernel_rfl) trivial ?_
              refine bindO_e hv343 (fun b345 hc346 hv343 => ?_)
              refine WO_call [.ro 1] Try.f51 rfl rfl rfl (by kernel_rfl) rfl rfl (by kernel_rfl) (spec_replaced_ok n x2 i222 b345 hc346) (And.intro (And.intro rfl rfl) (trivial)) rfl ?_
              refine WO_step 2 [0, 1, 2, 3, 4] [1, 5, 6, 7, 8, 55] True ⟨[(1, .one (.e (.sl 1 0 x2.length))), (5, .one (.e (.sl 2 0 x220.length))), (6, .one (.e (.sl 3 0 x221.length))), (7, I i222), (8, .one (.e (.p 4 0))), (55, B (!b345))], [.row .nod x1 false, .row .rcd x2 false, .row .rcd x220 true, .row .int x221 true, .cells [cI ((x2.getD i222.toNat drcd).who), cI ((x2.getD i222.toNat drcd).node), cI ((x2.getD i222.toNat drcd).value), cB ((x2.getD i222.toNat drcd).fin)]]⟩ (by kernel_rfl) trivial ?_
              cases hv343
              exact WO_nil rfl ⟨rfl, rfl⟩
            · refine WO_step 5 [0, 1, 2, 3, 4] [1, 5, 6, 7, 8, 55] True ⟨[(1, .one (.e (.sl 1 0 x2.length))), (5, .one (.e (.sl 2 0 x220.length))), (6, .one (.e (.sl 3 0 x221.length))), (7, I i222), (8, .one (.e (.p 4 0))), (55, B false)], [.row .nod x1 false, .row .rcd x2 false, .row .rcd x220 true, .row .int x221 true, .cells [cI ((x2.getD i222.toNat drcd).who), cI ((x2.getD i222.toNat drcd).node), cI ((x2.getD i222.toNat drcd).value), cB ((x2.getD i222.toNat drcd).fin)]]⟩ (by kernel_rfl) trivial ?_
              cases hv343
              exact WO_nil rfl ⟨rfl, rfl⟩
          · refine thenS_n ?_
            refine bindO_e hv311 (fun v352 hv352 hv311 => ?_)
            refine W_cut (Q' := fun (e : Exit) (s : St) => (match v352 with | (x350, x351) => e = .normal ∧ s = ⟨[(1, .one (.e (.sl 1 0 x2.length))), (5, .one (.e (.sl 2 0 x350.length))), (6, .one (.e (.sl 3 0 x351.length))), (7, I i222)], [.row .nod x1 false, .row .rcd x2 false, .row .rcd x350 true, .row .int x351 true]⟩ : Prop)) ?_ ?_
            · refine iteO_e hv352 (fun hb353 hv352 => W_true rfl hb353 ?_) (fun hb353 hv352 => W_false rfl hb353 ?_)
              · refine W_seq ?_
                refine W_region ?_
                refine guardO_e hv352 (fun hg354 hv352 => ?_)
                refine WO_step 5 [0, 1, 6, 3, 4] [1, 5, 6, 7, 8] (True ∧ ((0 = 0 ∧ x220.length = x220.length ∧ x220.length + (([(⟨(x2.getD i222.toNat drcd).who, (x2.getD i222.toNat drcd).node, (x2.getD i222.toNat drcd).value, (x2.getD i222.toNat drcd).fin⟩ : Rcd)].drop 0).take ([(⟨(x2.getD i222.toNat drcd).who, (x2.getD i222.toNat drcd).node, (x2.getD i222.toNat drcd).value, (x2.getD i222.toNat drcd).fin⟩ : Rcd)].length)).length ≤ 1099511627776) ∧ True)) ⟨[(1, .one (.e (.sl 1 0 x2.length))), (5, .one (.e (.sl 2 0 ((x220 ++ (([(⟨(x2.getD i222.toNat drcd).who, (x2.getD i222.toNat drcd).node, (x2.getD i222.toNat drcd).value, (x2.getD i222.toNat drcd).fin⟩ : Rcd)].drop 0).take ([(⟨(x2.getD i222.toNat drcd).who, (x2.getD i222.toNat drcd).node, (x2.getD i222.toNat drcd).value, (x2.getD i222.toNat drcd).fin⟩ : Rcd)].length))).length)))), (6, .one (.e (.sl 3 0 x221.length))), (7, I i222), (8, .one (.e (.p 4 0)))], [.row .nod x1 false, .row .rcd x2 false, .row .rcd (x220 ++ (([(⟨(x2.getD i222.toNat drcd).who, (x2.getD i222.toNat drcd).node, (x2.getD i222.toNat drcd).value, (x2.getD i222.toNat drcd).fin⟩ : Rcd)].drop 0).take ([(⟨(x2.getD i222.toNat drcd).who, (x2.getD i222.toNat drcd).node, (x2.getD i222.toNat drcd).value, (x2.getD i222.toNat drcd).fin⟩ : Rcd)].length))) true, .row .int x221 true, .cells [cI ((x2.getD i222.toNat drcd).who), cI ((x2.getD i222.toNat drcd).node), cI ((x2.getD i222.toNat drcd).value), cB ((x2.getD i222.toNat drcd).fin)]]⟩ (by kernel_rfl) ⟨trivial, hg354, trivial⟩ ?_
                refine WO_nil rfl ?_
                refine thenS_n ?_
                refine W_region ?_
                refine guardO_e hv352 (fun hg355 hv352 => ?_)
                refine WO_step 6 [0, 1, 2, 6] [1, 5, 6, 7] (True ∧ ((0 = 0 ∧ x221.length = x221.length ∧ x221.length + (([(x2.getD i222.toNat drcd).who].drop 0).take ([(x2.getD i222.toNat drcd).who].length)).length ≤ 1099511627776) ∧ True)) ⟨[(1, .one (.e (.sl 1 0 x2.length))), (5, .one (.e (.sl 2 0 ((x220 ++ (([(⟨(x2.getD i222.toNat drcd).who, (x2.getD i222.toNat drcd).node, (x2.getD i222.toNat drcd).value, (x2.getD i222.toNat drcd).fin⟩ : Rcd)].drop 0).take ([(⟨(x2.getD i222.toNat drcd).who, (x2.getD i222.toNat drcd).node, (x2.getD i222.toNat drcd).value, (x2.getD i222.toNat drcd).fin⟩ : Rcd)].length))).length)))), (6, .one (.e (.sl 3 0 ((x221 ++ (([(x2.getD i222.toNat drcd).who].drop 0).take ([(x2.getD i222.toNat drcd).who].length))).length)))), (7, I i222)], [.row .nod x1 false, .row .rcd x2 false, .row .rcd (x220 ++ (([(⟨(x2.getD i222.toNat drcd).who, (x2.getD i222.toNat drcd).node, (x2.getD i222.toNat drcd).value, (x2.getD i222.toNat drcd).fin⟩ : Rcd)].drop 0).take ([(⟨(x2.getD i222.toNat drcd).who, (x2.getD i222.toNat drcd).node, (x2.getD i222.toNat drcd).value, (x2.getD i222.toNat drcd).fin⟩ : Rcd)].length))) true, .row .int (x221 ++ (([(x2.getD i222.toNat drcd).who].drop 0).take ([(x2.getD i222.toNat drcd).who].length))) true]⟩ (by kernel_rfl) ⟨trivial, hg355, trivial⟩ ?_
                refine WO_nil rfl ?_
                cases hv352
                exact And.intro rfl rfl
              · refine W_sub [0, 1, 2, 3] [1, 5, 6, 7] (st' := ⟨[(1, .one (.e (.sl 1 0 x2.length))), (5, .one (.e (.sl 2 0 x220.length))), (6, .one (.e (.sl 3 0 x221.length))), (7, I i222)], [.row .nod x1 false, .row .rcd x2 false, .row .rcd x220 true, .row .int x221 true]⟩) (by kernel_rfl) ?_
                refine W_skip ?_
                cases hv352
                exact And.intro rfl rfl
            · obtain ⟨x350, x351⟩ := v352
              rintro _ _ ⟨rfl, rfl⟩
              refine blockS_n ?_
              cases hv311
              exact And.intro rfl rfl
      · obtain ⟨x309, x310⟩ := v311
        rintro _ _ ⟨rfl, rfl⟩
        refine thenS_n ?_
        refine W_region ?_
        refine WO_step 3 [0, 1, 2, 3] [1, 5, 6, 7] (True ∧ True) ⟨[(1, .one (.e (.sl 1 0 x2.length))), (5, .one (.e (.sl 2 0 x309.length))), (6, .one (.e (.sl 3 0 x310.length))), (7, I (w64 (i222 + 1)))], [.row .nod x1 false, .row .rcd x2 false, .row .rcd x309 true, .row .int x310 true]⟩ (by kernel_rfl) ⟨trivial, trivial⟩ ?_
        refine WO_nil rfl ?_
        refine thenS_n ?_
        exact ih _ _ _ h
    · refine W_sub [0, 1, 2] [5] (st' := ⟨[(5, .one (.e (.sl 2 0 x220.length)))], [.row .nod x1 false, .row .rcd x2 false, .row .rcd x220 true]⟩) (by kernel_rfl) ?_
      refine W_exit ?_
      refine thenS_e ?_
      refine thenS_e ?_
      cases h
      exact And.intro rfl rfl

def spec_ShortLog (n : Nat) (x1 : List Nod) (x2 : List Rcd) : Option ((List Rcd)) :=
 bindO (spec_validTree n x1) fun b158 =>
 bindO (iteO (!b158)
 (some true)
 (bindO (spec_validLog n x1 x2) fun b166 =>
 some (!b166))) fun b163 =>
 iteO b163
 (some ([] : List Rcd))
 (bindO (spec_ShortLog_L1 x2 x1 n ([] : List Rcd) ([] : List Int) 0) fun x268 =>
 some x268)

theorem spec_ShortLog_ok (n : Nat) (x1 : List Nod) (x2 : List Rcd) (x157 : List Rcd) (h : spec_ShortLog n x1 x2 = some x157) : FOk EE 25 [.one (.e (.sl 0 0 x1.length)), .one (.e (.sl 1 0 x2.length))] [.row .nod x1 false, .row .rcd x2 false] (.one (.e (.sl 2 0 x157.length))) [.row .nod x1 false, .row .rcd x2 false, .row .rcd x157 true] := by
  unfold spec_ShortLog at h
  refine FOk_of_W 66 2 Try.func25 rfl rfl (Nat.le_of_ble_eq_true rfl) rfl (fun w X θ => ?_)
  refine W_seq ?_
  refine W_region ?_
  refine WO_step 1 [0, 1] [0, 1] True ⟨[(0, .one (.e (.sl 0 0 x1.length))), (1, .one (.e (.sl 1 0 x2.length)))], [.row .nod x1 false, .row .rcd x2 false]⟩ (by kernel_rfl) trivial ?_
  refine WO_nil rfl ?_
  refine thenS_n ?_
  refine W_seq ?_
  refine W_region ?_
  refine WO_step 2 [0, 1, 2] [0, 1, 5] True ⟨[(0, .one (.e (.sl 0 0 x1.length))), (1, .one (.e (.sl 1 0 x2.length))), (5, .one (.e (.sl 2 0 (([] : List Rcd).length))))], [.row .nod x1 false, .row .rcd x2 false, .row .rcd ([] : List Rcd) true]⟩ (by kernel_rfl) trivial ?_
  refine WO_nil rfl ?_
  refine thenS_n ?_
  refine W_seq ?_
  refine W_seq ?_
  refine W_region ?_
  refine WO_step 1 [0, 1, 2] [0, 1, 5, 10] True ⟨[(0, .one (.e (.sl 0 0 x1.length))), (1, .one (.e (.sl 1 0 x2.length))), (5, .one (.e (.sl 2 0 (([] : List Rcd).length)))), (10, .one (.e (.sl 0 0 x1.length)))], [.row .nod x1 false, .row .rcd x2 false, .row .rcd ([] : List Rcd) true]⟩ (by kernel_rfl) trivial ?_
  refine bindO_e h (fun b158 hc159 h => ?_)
  refine WO_call [.ro 0] Try.f42 rfl rfl rfl (by kernel_rfl) rfl rfl (by kernel_rfl) (spec_validTree_ok n x1 b158 hc159) (And.intro (And.intro rfl rfl) (trivial)) rfl ?_
  refine WO_step 2 [0, 1, 2] [0, 1, 5, 13] True ⟨[(0, .one (.e (.sl 0 0 x1.length))), (1, .one (.e (.sl 1 0 x2.length))), (5, .one (.e (.sl 2 0 (([] : List Rcd).length)))), (13, B (!b158))], [.row .nod x1 false, .row .rcd x2 false, .row .rcd ([] : List Rcd) true]⟩ (by kernel_rfl) trivial ?_
  refine bindO_e h (fun b163 hv164 h => ?_)
  refine WO_thru ⟨[(1, .one (.e (.sl 1 0 x2.length))), (5, .one (.e (.sl 2 0 (([] : List Rcd).length)))), (18, B b163)], [.row .nod x1 false, .row .rcd x2 false, .row .rcd ([] : List Rcd) true]⟩ ?_ ?_
  · refine iteO_e hv164 (fun hb165 hv164 => WO_known 13 true rfl hb165 ?_) (fun hb165 hv164 => WO_known 13 false rfl hb165 ?_)
    · refine WO_step 5 [0, 1, 2] [1, 5, 18] True ⟨[(1, .one (.e (.sl 1 0 x2.length))), (5, .one (.e (.sl 2 0 (([] : List Rcd).length)))), (18, B true)], [.row .nod x1 false, .row .rcd x2 false, .row .rcd ([] : List Rcd) true]⟩ (by kernel_rfl) trivial ?_
      cases hv164
      exact WO_nil rfl ⟨rfl, rfl⟩
    · refine WO_step 2 [0, 1, 2] [1, 5, 13, 14, 15] True ⟨[(1, .one (.e (.sl 1 0 x2.length))), (5, .one (.e (.sl 2 0 (([] : List Rcd).length)))), (13, B false), (14, .one (.e (.sl 0 0 x1.length))), (15, .one (.e (.sl 1 0 x2.length)))], [.row .nod x1 false, .row .rcd x2 false, .row .rcd ([] : List Rcd) true]⟩ (by kernel_rfl) trivial ?_
      refine bindO_e hv164 (fun b166 hc167 hv164 => ?_)
      refine WO_call [.ro 0, .ro 1] Try.f43 rfl rfl rfl (by kernel_rfl) rfl rfl (by kernel_rfl) (spec_validLog_ok n x1 x2 b166 hc167) (And.intro (And.intro rfl rfl) (And.intro (And.intro rfl rfl) (trivial))) rfl ?_
      refine WO_step 2 [0, 1, 2] [1, 5, 18] True ⟨[(1, .one (.e (.sl 1 0 x2.length))), (5, .one (.e (.sl 2 0 (([] : List Rcd).length)))), (18, B (!b166))], [.row .nod x1 false, .row .rcd x2 false, .row .rcd ([] : List Rcd) true]⟩ (by kernel_rfl) trivial ?_
      cases hv164
      exact WO_nil rfl ⟨rfl, rfl⟩
  · refine thenS_n ?_
    refine iteO_e h (fun hb169 h => W_true rfl hb169 ?_) (fun hb169 h => W_false rfl hb169 ?_)
    · refine W_seq ?_
      refine W_region ?_
      refine WO_step 1 [0, 1] [4] True ⟨[(4, .one (.e (.nsl)))], [.row .nod x1 false, .row .rcd x2 false]⟩ (by kernel_rfl) trivial ?_
      refine WO_nilrow 4 .rcd rfl ?_
      refine WO_sub [0, 1, 2] [4] (st' := ⟨[(4, .one (.e (.sl 2 0 (([] : List Rcd).length))))], [.row .nod x1 false, .row .rcd x2 false, .row .rcd ([] : List Rcd) true]⟩) (by kernel_rfl) ?_
      refine WO_nil rfl ?_
      refine thenS_n ?_
      refine W_ret ?_
      refine thenS_r ?_
      cases h
      exact ⟨[0, 1, 2], True, by kernel_rfl, trivial⟩
    · refine W_sub [0, 1, 2] [1, 5] (st' := ⟨[(1, .one (.e (.sl 1 0 x2.length))), (5, .one (.e (.sl 2 0 (([] : List Rcd).length))))], [.row .nod x1 false, .row .rcd x2 false, .row .rcd ([] : List Rcd) true]⟩) (by kernel_rfl) ?_
      refine W_skip ?_
      refine thenS_n ?_
      refine W_seq ?_
      refine W_region ?_
      refine WO_step 2 [0, 1, 2, 3] [1, 5, 6] True ⟨[(1, .one (.e (.sl 1 0 x2.length))), (5, .one (.e (.sl 2 0 (([] : List Rcd).length)))), (6, .one (.e (.sl 3 0 (([] : List Int).length))))], [.row .nod x1 false, .row .rcd x2 false, .row .rcd ([] : List Rcd) true, .row .int ([] : List Int) true]⟩ (by kernel_rfl) trivial ?_
      refine WO_nil rfl ?_
      refine thenS_n ?_
      refine W_seq ?_
      refine W_seq ?_
      refine W_region ?_
      refine WO_step 1 [0, 1, 2, 3] [1, 5, 6, 7] True ⟨[(1, .one (.e (.sl 1 0 x2.length))), (5, .one (.e (.sl 2 0 (([] : List Rcd).length)))), (6, .one (.e (.sl 3 0 (([] : List Int).length)))), (7, I 0)], [.row .nod x1 false, .row .rcd x2 false, .row .rcd ([] : List Rcd) true, .row .int ([] : List Int) true]⟩ (by kernel_rfl) trivial ?_
      refine WO_nil rfl ?_
      refine thenS_n ?_
      refine W_block ?_
      refine W_loop ?_
      refine bindO_e h (fun x268 hx268 h => ?_)
      refine WL_cut (spec_ShortLog_L1_ok w X θ x2 x1 x268 n ([] : List Rcd) ([] : List Int) 0 hx268) ?_
      rintro _ _ ⟨rfl, rfl⟩
      refine blockS_y ?_
      refine thenS_n ?_
      refine W_seq ?_
      refine W_region ?_
      refine WO_step 2 [0, 1, 2] [4] True ⟨[(4, .one (.e (.sl 2 0 x268.length)))], [.row .nod x1 false, .row .rcd x2 false, .row .rcd x268 true]⟩ (by kernel_rfl) trivial ?_
      refine WO_nil rfl ?_
      refine thenS_n ?_
      refine W_ret ?_
      cases h
      exact ⟨[0, 1, 2], True, by kernel_rfl, trivial⟩

/- impl.within -/
def impl_within (i1 : Int) (i2 : Int) (i3 : Int) : Bool :=
((decide (i2 ≤ i1)) && (decide (i1 ≤ i3)))

theorem impl_within_ok (i1 : Int) (i2 : Int) (i3 : Int) : FOk EE 46 [I i1, I i2, I i3] [] (B (impl_within i1 i2 i3)) [] := by
  refine FOk_of_W 15 0 Try.func46 rfl rfl (Nat.le_of_ble_eq_true rfl) rfl (fun w X θ => ?_)
  refine W_seq ?_
  refine W_region ?_
  refine WO_step 1 [] [0, 1, 2] True ⟨[(0, I i1), (1, I i2), (2, I i3)], []⟩ (by kernel_rfl) trivial ?_
  refine WO_nil rfl ?_
  refine thenS_n ?_
  refine W_seq ?_
  refine W_region ?_
  refine WO_step 4 [] [0, 2, 10] (True ∧ True) ⟨[(0, I i1), (2, I i3), (10, B (decide (i2 ≤ i1)))], []⟩ (by kernel_rfl) ⟨trivial, trivial⟩ ?_
  refine WO_thru ⟨[(6, B ((decide (i2 ≤ i1)) && (decide (i1 ≤ i3))))], []⟩ ?_ ?_
  · refine WO_if 10 rfl (fun hb10 => ?_) (fun hb10 => ?_)
    · refine WO_step 5 [] [6] (True ∧ True) ⟨[(6, B (decide (i1 ≤ i3)))], []⟩ (by kernel_rfl) ⟨trivial, trivial⟩ ?_
      exact WO_nil rfl ⟨rfl, by first | rfl | (rw [hb10]; first | done | rfl)⟩
    · refine WO_step 5 [] [6] True ⟨[(6, B false)], []⟩ (by kernel_rfl) trivial ?_
      exact WO_nil rfl ⟨rfl, by first | rfl | (rw [hb10]; first | done | rfl)⟩
  · refine thenS_n ?_
    refine W_ret ?_
    exact ⟨[], True, by kernel_rfl, trivial⟩

/- impl.isName -/
def impl_isName_L1 (s1 : Str) : Nat → Int → Option ((Unit) ⊕ (Unit))
| 0, _ => none
| n + 1, i96 =>
 iteO (decide (i96 < ((s1.length : Nat) : Int)))
 (guardO (0 ≤ i96 ∧ i96 < ((s1.length : Nat) : Int)) <|
 bindO (iteO (decide (((s1.getD i96.toNat 0).toNat : Int) < 97))
 (some true)
 (guardO (0 ≤ i96 ∧ i96 < ((s1.length : Nat) : Int)) <|
 some (decide (122 < ((s1.getD i96.toNat 0).toNat : Int))))) fun b133 =>
 iteO b133
 (some (.inl ()))
 (impl_isName_L1 s1 n (w64 (i96 + 1))))
 (some (.inr ()))

theorem impl_isName_L1_ok (w : World) (X : Nat → Prop) (θ : List Loc) (s1 : Str) (v : (Unit) ⊕ (Unit)) : ∀ (n : Nat) (i96 : Int), impl_isName_L1 s1 n i96 = some v → WL EE ⟨w, X, θ, 24, 0⟩ (subC [1, 1, 0, 1, 4, 4] (bodyC Try.f63)) (fun (e : Exit) (s : St) => (match v with | (.inl _) => e = .ret ∧ s = ⟨[(2, B false)], []⟩ | (.inr _) => e = .exit 0 ∧ s = ⟨[], []⟩ : Prop)) ⟨[(0, S s1), (9, I ((s1.length : Nat) : Int)), (10, I i96)], []⟩ := by
  intro n
  induction n with
  | zero => intro _ h; exact none_e h
  | succ n ih =>
    intro i96 h
    rw [impl_isName_L1] at h
    refine WL_round ?_
    refine W_seq ?_
    refine W_region ?_
    refine WO_step 1 [] [0, 9, 10, 11] (True ∧ True) ⟨[(0, S s1), (9, I ((s1.length : Nat) : Int)), (10, I i96), (11, B (decide (i96 < ((s1.length : Nat) : Int))))], []⟩ (by kernel_rfl) ⟨trivial, trivial⟩ ?_
    refine WO_nil rfl ?_
    refine thenS_n ?_
    refine W_seq ?_
    refine iteO_e h (fun hb120 h => W_true rfl hb120 ?_) (fun hb120 h => W_false rfl hb120 ?_)
    · refine W_sub [] [0, 9, 10] (st' := ⟨[(0, S s1), (9, I ((s1.length : Nat) : Int)), (10, I i96)], []⟩) (by kernel_rfl) ?_
      refine W_skip ?_
      refine thenS_n ?_
      refine W_seq ?_
      refine W_block ?_
      refine W_seq ?_
      refine W_region ?_
      refine WO_step 2 [] [0, 3, 9, 10] True ⟨[(0, S s1), (3, I i96), (9, I ((s1.length : Nat) : Int)), (10, I i96)], []⟩ (by kernel_rfl) trivial ?_
      refine WO_nil rfl ?_
      refine thenS_n ?_
      refine W_seq ?_
      refine W_region ?_
      refine guardO_e h (fun hg130 h => ?_)
      refine WO_step 5 [] [0, 3, 9, 10, 17] ((0 ≤ i96 ∧ i96 < ((s1.length : Nat) : Int)) ∧ (True ∧ True)) ⟨[(0, S s1), (3, I i96), (9, I ((s1.length : Nat) : Int)), (10, I i96), (17, B (decide (((s1.getD i96.toNat 0).toNat : Int) < 97)))], []⟩ (by kernel_rfl) ⟨hg130, trivial, trivial⟩ ?_
      refine bindO_e h (fun b133 hv134 h => ?_)
      refine WO_thru ⟨[(0, S s1), (9, I ((s1.length : Nat) : Int)), (10, I i96), (22, B b133)], []⟩ ?_ ?_
      · refine iteO_e hv134 (fun hb135 hv134 => WO_known 17 true rfl hb135 ?_) (fun hb135 hv134 => WO_known 17 false rfl hb135 ?_)
        · refine WO_step 5 [] [0, 9, 10, 22] True ⟨[(0, S s1), (9, I ((s1.length : Nat) : Int)), (10, I i96), (22, B true)], []⟩ (by kernel_rfl) trivial ?_
          cases hv134
          exact WO_nil rfl ⟨rfl, rfl⟩
        · refine guardO_e hv134 (fun hg136 hv134 => ?_)
          refine WO_step 5 [] [0, 9, 10, 22] ((0 ≤ i96 ∧ i96 < ((s1.length : Nat) : Int)) ∧ (True ∧ True)) ⟨[(0, S s1), (9, I ((s1.length : Nat) : Int)), (10, I i96), (22, B (decide (122 < ((s1.getD i96.toNat 0).toNat : Int))))], []⟩ (by kernel_rfl) ⟨hg136, trivial, trivial⟩ ?_
          cases hv134
          exact WO_nil rfl ⟨rfl, rfl⟩
      · refine thenS_n ?_
        refine iteO_e h (fun hb138 h => W_true rfl hb138 ?_) (fun hb138 h => W_false rfl hb138 ?_)
        · refine W_seq ?_
          refine W_region ?_
          refine WO_step 1 [] [2] True ⟨[(2, B false)], []⟩ (by kernel_rfl) trivial ?_
          refine WO_nil rfl ?_
          refine thenS_n ?_
          refine W_ret ?_
          refine blockS_r ?_
          refine thenS_r ?_
          refine thenS_r ?_
          cases h
          exact And.intro rfl rfl
        · refine W_sub [] [0, 9, 10] (st' := ⟨[(0, S s1), (9, I ((s1.length : Nat) : Int)), (10, I i96)], []⟩) (by kernel_rfl) ?_
          refine W_skip ?_
          refine blockS_n ?_
          refine thenS_n ?_
          refine W_region ?_
          refine WO_step 2 [] [0, 9, 10] (True ∧ True) ⟨[(0, S s1), (9, I ((s1.length : Nat) : Int)), (10, I (w64 (i96 + 1)))], []⟩ (by kernel_rfl) ⟨trivial, trivial⟩ ?_
          refine WO_nil rfl ?_
          refine thenS_n ?_
          exact ih _ h
    · refine W_sub [] [] (st' := ⟨[], []⟩) (by kernel_rfl) ?_
      refine W_exit ?_
      refine thenS_e ?_
      refine thenS_e ?_
      cases h
      exact And.intro rfl rfl

def impl_isName (n : Nat) (s1 : Str) : Option (Bool) :=
 iteO (!(impl_within ((s1.length : Nat) : Int) 1 4))
 (some false)
 (bindO (impl_isName_L1 s1 n 0) fun v139 =>
 match v139 with
 | (.inl _) => (some false)
 | (.inr _) => (some true)
)

theorem impl_isName_ok (n : Nat) (s1 : Str) (b70 : Bool) (h : impl_isName n s1 = some b70) : FOk EE 63 [S s1] [] (B b70) [] := by
  unfold impl_isName at h
  refine FOk_of_W 24 0 Try.func63 rfl rfl (Nat.le_of_ble_eq_true rfl) rfl (fun w X θ => ?_)
  refine W_seq ?_
  refine W_region ?_
  refine WO_step 1 [] [0] True ⟨[(0, S s1)], []⟩ (by kernel_rfl) trivial ?_
  refine WO_nil rfl ?_
  refine thenS_n ?_
  refine W_seq ?_
  refine W_seq ?_
  refine W_region ?_
  refine WO_step 2 [] [0, 5] (True ∧ True) ⟨[(0, S s1), (5, I ((s1.length : Nat) : Int))], []⟩ (by kernel_rfl) ⟨trivial, trivial⟩ ?_
  refine WO_call [] Try.f46 rfl rfl rfl (by kernel_rfl) rfl rfl (by kernel_rfl) (impl_within_ok ((s1.length : Nat) : Int) 1 4) (trivial) rfl ?_
  refine WO_step 1 [] [0, 7] True ⟨[(0, S s1), (7, B (!(impl_within ((s1.length : Nat) : Int) 1 4)))], []⟩ (by kernel_rfl) trivial ?_
  refine WO_nil rfl ?_
  refine thenS_n ?_
  refine iteO_e h (fun hb72 h => W_true rfl hb72 ?_) (fun hb72 h => W_false rfl hb72 ?_)
  · refine W_seq ?_
    refine W_region ?_
    refine WO_step 1 [] [2] True ⟨[(2, B false)], []⟩ (by kernel_rfl) trivial ?_
    refine WO_nil rfl ?_
    refine thenS_n ?_
    refine W_ret ?_
    refine thenS_r ?_
    cases h
    exact ⟨[], True, by kernel_rfl, trivial⟩
  · refine W_sub [] [0] (st' := ⟨[(0, S s1)], []⟩) (by kernel_rfl) ?_
    refine W_skip ?_
    refine thenS_n ?_
    refine W_seq ?_
    refine W_seq ?_
    refine W_region ?_
    refine WO_step 3 [] [0, 9, 10] (True ∧ True) ⟨[(0, S s1), (9, I ((s1.length : Nat) : Int)), (10, I 0)], []⟩ (by kernel_rfl) ⟨trivial, trivial⟩ ?_
    refine WO_nil rfl ?_
    refine thenS_n ?_
    refine W_block ?_
    refine W_loop ?_
    refine bindO_e h (fun v139 hv139 h => ?_)
    refine WL_cut (impl_isName_L1_ok w X θ s1 v139 n 0 hv139) ?_
    rcases v139 with _ | _
    · rintro _ _ ⟨rfl, rfl⟩
      refine blockS_r ?_
      refine thenS_r ?_
      cases h
      exact ⟨[], True, by kernel_rfl, trivial⟩
    · rintro _ _ ⟨rfl, rfl⟩
      refine blockS_y ?_
      refine thenS_n ?_
      refine W_seq ?_
      refine W_region ?_
      refine WO_step 1 [] [2] True ⟨[(2, B true)], []⟩ (by kernel_rfl) trivial ?_
      refine WO_nil rfl ?_
      refine thenS_n ?_
      refine W_ret ?_
      cases h
      exact ⟨[], True, by kernel_rfl, trivial⟩

/- impl.kidIn -/
def impl_kidIn_L1 (i2 : Int) (s3 : Str) (x1 : List Nod) : Nat → Int → Option ((Int) ⊕ (Unit))
| 0, _ => none
| n + 1, i73 =>
 iteO (decide (i73 < ((x1.length : Nat) : Int)))
 (guardO (0 ≤ i73 ∧ i73 < ((x1.length : Nat) : Int)) <|
 iteO ((decide (((x1.getD i73.toNat dnod).parent) = i2)) && (decide (((x1.getD i73.toNat dnod).name) = s3)))
 (some (.inl i73))
 (impl_kidIn_L1 i2 s3 x1 n (w64 (i73 + 1))))
 (some (.inr ()))

theorem impl_kidIn_L1_ok (w : World) (X : Nat → Prop) (θ : List Loc) (i2 : Int) (s3 : Str) (x1 : List Nod) (v : (Int) ⊕ (Unit)) : ∀ (n : Nat) (i73 : Int), impl_kidIn_L1 i2 s3 x1 n i73 = some v → WL EE ⟨w, X, θ, 28, 1⟩ (subC [1, 0, 1, 4, 4] (bodyC Try.f64)) (fun (e : Exit) (s : St) => (match v with | (.inl i89) => e = .ret ∧ s = ⟨[(6, I i89)], [.row .nod x1 false]⟩ | (.inr _) => e = .exit 0 ∧ s = ⟨[], [.row .nod x1 false]⟩ : Prop)) ⟨[(1, I i2), (2, S s3), (9, .one (.e (.sl 0 0 x1.length))), (10, I ((x1.length : Nat) : Int)), (11, I i73)], [.row .nod x1 false]⟩ := by
  intro n
  induction n with
  | zero => intro _ h; exact none_e h
  | succ n ih =>
    intro i73 h
    rw [impl_kidIn_L1] at h
    refine WL_round ?_
    refine W_seq ?_
    refine W_region ?_
    refine WO_step 1 [0] [1, 2, 9, 10, 11, 12] (True ∧ True) ⟨[(1, I i2), (2, S s3), (9, .one (.e (.sl 0 0 x1.length))), (10, I ((x1.length : Nat) : Int)), (11, I i73), (12, B (decide (i73 < ((x1.length : Nat) : Int))))], [.row .nod x1 false]⟩ (by kernel_rfl) ⟨trivial, trivial⟩ ?_
    refine WO_nil rfl ?_
    refine thenS_n ?_
    refine W_seq ?_
    refine iteO_e h (fun hb92 h => W_true rfl hb92 ?_) (fun hb92 h => W_false rfl hb92 ?_)
    · refine W_sub [0] [1, 2, 9, 10, 11] (st' := ⟨[(1, I i2), (2, S s3), (9, .one (.e (.sl 0 0 x1.length))), (10, I ((x1.length : Nat) : Int)), (11, I i73)], [.row .nod x1 false]⟩) (by kernel_rfl) ?_
      refine W_skip ?_
      refine thenS_n ?_
      refine W_seq ?_
      refine W_block ?_
      refine W_seq ?_
      refine W_region ?_
      refine guardO_e h (fun hg99 h => ?_)
      refine WO_step 6 [0, 1] [1, 2, 7, 8, 9, 10, 11] ((0 ≤ i73 ∧ i73 < ((x1.length : Nat) : Int)) ∧ (True ∧ (True ∧ (True ∧ True)))) ⟨[(1, I i2), (2, S s3), (7, I i73), (8, .one (.e (.p 1 0))), (9, .one (.e (.sl 0 0 x1.length))), (10, I ((x1.length : Nat) : Int)), (11, I i73)], [.row .nod x1 false, .cells [cI ((x1.getD i73.toNat dnod).parent), cS ((x1.getD i73.toNat dnod).name), cI ((x1.getD i73.toNat dnod).value)]]⟩ (by kernel_rfl) ⟨hg99, trivial, trivial, trivial, trivial⟩ ?_
      refine WO_nil rfl ?_
      refine thenS_n ?_
      refine W_seq ?_
      refine W_region ?_
      refine WO_step 5 [0, 1] [1, 2, 7, 8, 9, 10, 11, 20] (True ∧ (True ∧ True)) ⟨[(1, I i2), (2, S s3), (7, I i73), (8, .one (.e (.p 1 0))), (9, .one (.e (.sl 0 0 x1.length))), (10, I ((x1.length : Nat) : Int)), (11, I i73), (20, B (decide (((x1.getD i73.toNat dnod).parent) = i2)))], [.row .nod x1 false, .cells [cI ((x1.getD i73.toNat dnod).parent), cS ((x1.getD i73.toNat dnod).name), cI ((x1.getD i73.toNat dnod).value)]]⟩ (by kernel_rfl) ⟨trivial, trivial, trivial⟩ ?_
      refine WO_thru ⟨[(1, I i2), (2, S s3), (7, I i73), (9, .one (.e (.sl 0 0 x1.length))), (10, I ((x1.length : Nat) : Int)), (11, I i73), (25, B ((decide (((x1.getD i73.toNat dnod).parent) = i2)) && (decide (((x1.getD i73.toNat dnod).name) = s3))))], [.row .nod x1 false]⟩ ?_ ?_
      · refine WO_if 20 rfl (fun hb102 => ?_) (fun hb102 => ?_)
        · refine WO_step 5 [0] [1, 2, 7, 9, 10, 11, 25] (True ∧ (True ∧ True)) ⟨[(1, I i2), (2, S s3), (7, I i73), (9, .one (.e (.sl 0 0 x1.length))), (10, I ((x1.length : Nat) : Int)), (11, I i73), (25, B (decide (((x1.getD i73.toNat dnod).name) = s3)))], [.row .nod x1 false]⟩ (by kernel_rfl) ⟨trivial, trivial, trivial⟩ ?_
          exact WO_nil rfl ⟨rfl, by first | rfl | (rw [hb102]; first | done | rfl)⟩
        · refine WO_step 5 [0] [1, 2, 7, 9, 10, 11, 25] True ⟨[(1, I i2), (2, S s3), (7, I i73), (9, .one (.e (.sl 0 0 x1.length))), (10, I ((x1.length : Nat) : Int)), (11, I i73), (25, B false)], [.row .nod x1 false]⟩ (by kernel_rfl) trivial ?_
          exact WO_nil rfl ⟨rfl, by first | rfl | (rw [hb102]; first | done | rfl)⟩
      · refine thenS_n ?_
        refine iteO_e h (fun hb104 h => W_true rfl hb104 ?_) (fun hb104 h => W_false rfl hb104 ?_)
        · refine W_seq ?_
          refine W_region ?_
          refine WO_step 2 [0] [6] True ⟨[(6, I i73)], [.row .nod x1 false]⟩ (by kernel_rfl) trivial ?_
          refine WO_nil rfl ?_
          refine thenS_n ?_
          refine W_ret ?_
          refine blockS_r ?_
          refine thenS_r ?_
          refine thenS_r ?_
          cases h
          exact And.intro rfl rfl
        · refine W_sub [0] [1, 2, 9, 10, 11] (st' := ⟨[(1, I i2), (2, S s3), (9, .one (.e (.sl 0 0 x1.length))), (10, I ((x1.length : Nat) : Int)), (11, I i73)], [.row .nod x1 false]⟩) (by kernel_rfl) ?_
          refine W_skip ?_
          refine blockS_n ?_
          refine thenS_n ?_
          refine W_region ?_
          refine WO_step 2 [0] [1, 2, 9, 10, 11] (True ∧ True) ⟨[(1, I i2), (2, S s3), (9, .one (.e (.sl 0 0 x1.length))), (10, I ((x1.length : Nat) : Int)), (11, I (w64 (i73 + 1)))], [.row .nod x1 false]⟩ (by kernel_rfl) ⟨trivial, trivial⟩ ?_
          refine WO_nil rfl ?_
          refine thenS_n ?_
          exact ih _ h
    · refine W_sub [0] [] (st' := ⟨[], [.row .nod x1 false]⟩) (by kernel_rfl) ?_
      refine W_exit ?_
      refine thenS_e ?_
      refine thenS_e ?_
      cases h
      exact And.intro rfl rfl

def impl_kidIn (n : Nat) (x1 : List Nod) (i2 : Int) (s3 : Str) : Option (Int) :=
 bindO (impl_kidIn_L1 i2 s3 x1 n 0) fun v105 =>
 match v105 with
 | (.inl i89) => (some i89)
 | (.inr _) => (some (-1))


theorem impl_kidIn_ok (n : Nat) (x1 : List Nod) (i2 : Int) (s3 : Str) (i54 : Int) (h : impl_kidIn n x1 i2 s3 = some i54) : FOk EE 64 [.one (.e (.sl 0 0 x1.length)), I i2, S s3] [.row .nod x1 false] (I i54) [.row .nod x1 false] := by
  unfold impl_kidIn at h
  refine FOk_of_W 28 1 Try.func64 rfl rfl (Nat.le_of_ble_eq_true rfl) rfl (fun w X θ => ?_)
  refine W_seq ?_
  refine W_region ?_
  refine WO_step 1 [0] [0, 1, 2] True ⟨[(0, .one (.e (.sl 0 0 x1.length))), (1, I i2), (2, S s3)], [.row .nod x1 false]⟩ (by kernel_rfl) trivial ?_
  refine WO_nil rfl ?_
  refine thenS_n ?_
  refine W_seq ?_
  refine W_seq ?_
  refine W_region ?_
  refine WO_step 3 [0] [1, 2, 9, 10, 11] (True ∧ True) ⟨[(1, I i2), (2, S s3), (9, .one (.e (.sl 0 0 x1.length))), (10, I ((x1.length : Nat) : Int)), (11, I 0)], [.row .nod x1 false]⟩ (by kernel_rfl) ⟨trivial, trivial⟩ ?_
  refine WO_nil rfl ?_
  refine thenS_n ?_
  refine W_block ?_
  refine W_loop ?_
  refine bindO_e h (fun v105 hv105 h => ?_)
  refine WL_cut (impl_kidIn_L1_ok w X θ i2 s3 x1 v105 n 0 hv105) ?_
  rcases v105 with i89 | _
  · rintro _ _ ⟨rfl, rfl⟩
    refine blockS_r ?_
    refine thenS_r ?_
    cases h
    exact ⟨[0], True, by kernel_rfl, trivial⟩
  · rintro _ _ ⟨rfl, rfl⟩
    refine blockS_y ?_
    refine thenS_n ?_
    refine W_seq ?_
    refine W_region ?_
    refine WO_step 1 [0] [6] True ⟨[(6, I (-1))], [.row .nod x1 false]⟩ (by kernel_rfl) trivial ?_
    refine WO_nil rfl ?_
    refine thenS_n ?_
    refine W_ret ?_
    cases h
    exact ⟨[0], True, by kernel_rfl, trivial⟩

/- impl.ValidTree -/
def impl_ValidTree_L1 (x1 : List Nod) : Nat → (List Int) → Int → Option ((Unit) ⊕ (Unit))
| 0, _, _ => none
| n + 1, x164, i165 =>
 iteO (decide (i165 < ((x1.length : Nat) : Int)))
 (bindO (guardO (0 ≤ i165 ∧ i165 < ((x1.length : Nat) : Int)) <|
 iteO (!(impl_within ((x1.getD i165.toNat dnod).value) (-1000) 1000))
 (some (.inl ()))
 (iteO (decide (i165 = 0))
 (some (.inr x164))
 (bindO (iteO (!(impl_within ((x1.getD i165.toNat dnod).parent) 0 (w64 (i165 - 1))))
 (some true)
 (bindO (impl_isName n ((x1.getD i165.toNat dnod).name)) fun b238 =>
 some (!b238))) fun b235 =>
 iteO b235
 (some (.inl ()))
 (guardO (0 ≤ i165 ∧ i165 ≤ ((x1.length : Nat) : Int)) <|
 bindO (impl_kidIn n ((x1.drop 0).take i165.toNat) ((x1.getD i165.toNat dnod).parent) ((x1.getD i165.toNat dnod).name)) fun i243 =>
 iteO (decide (0 ≤ i243))
 (some (.inl ()))
 (guardO (0 ≤ (x1.getD i165.toNat dnod).parent ∧ (x1.getD i165.toNat dnod).parent < ((x164.length : Nat) : Int)) <|
 guardO (0 ≤ i165 ∧ i165 < ((x164.length : Nat) : Int)) <|
 guardO (0 ≤ i165 ∧ i165 < (((x164.set i165.toNat (w64 ((x164.getD (((x1.getD i165.toNat dnod).parent).toNat) 0) + 1))).length : Nat) : Int)) <|
 iteO (decide (4 < ((x164.set i165.toNat (w64 ((x164.getD (((x1.getD i165.toNat dnod).parent).toNat) 0) + 1))).getD i165.toNat 0)))
 (some (.inl ()))
 (some (.inr (x164.set i165.toNat (w64 ((x164.getD (((x1.getD i165.toNat dnod).parent).toNat) 0) + 1))))))))) : Option ((Unit) ⊕ ((List Int)))) fun v226 =>
 match v226 with
 | (.inl _) => (some (.inl ()))
 | (.inr x225) => (impl_ValidTree_L1 x1 n x225 (w64 (i165 + 1)))
)
 (some (.inr ()))

theorem impl_ValidTree_L1_ok (w : World) (X : Nat → Prop) (θ : List Loc) (x1 : List Nod) (v : (Unit) ⊕ (Unit)) : ∀ (n : Nat) (x164 : List Int) (i165 : Int), impl_ValidTree_L1 x1 n x164 i165 = some v → WL EE ⟨w, X, θ, 78, 1⟩ (subC [1, 1, 1, 1, 0, 1, 4, 4] (bodyC Try.f45)) (fun (e : Exit) (s : St) => (match v with | (.inl _) => e = .ret ∧ s = ⟨[(2, B false)], [.row .nod x1 false]⟩ | (.inr _) => e = .exit 0 ∧ s = ⟨[], [.row .nod x1 false]⟩ : Prop)) ⟨[(0, .one (.e (.sl 0 0 x1.length))), (3, .one (.e (.sl 1 0 x164.length))), (29, .one (.e (.sl 0 0 x1.length))), (30, I ((x1.length : Nat) : Int)), (31, I i165)], [.row .nod x1 false, .row .int x164 true]⟩ := by
  intro n
  induction n with
  | zero => intro _ _ h; exact none_e h
  | succ n ih =>
    intro x164 i165 h
    rw [impl_ValidTree_L1] at h
    refine WL_round ?_
    refine W_seq ?_
    refine W_region ?_
    refine WO_step 1 [0, 1] [0, 3, 29, 30, 31, 32] (True ∧ True) ⟨[(0, .one (.e (.sl 0 0 x1.length))), (3, .one (.e (.sl 1 0 x164.length))), (29, .one (.e (.sl 0 0 x1.length))), (30, I ((x1.length : Nat) : Int)), (31, I i165), (32, B (decide (i165 < ((x1.length : Nat) : Int))))], [.row .nod x1 false, .row .int x164 true]⟩ (by kernel_rfl) ⟨trivial, trivial⟩ ?_
    refine WO_nil rfl ?_
    refine thenS_n ?_
    refine W_seq ?_
    refine iteO_e h (fun hb199 h => W_true rfl hb199 ?_) (fun hb199 h => W_false rfl hb199 ?_)
    · refine W_sub [0, 1] [0, 3, 29, 30, 31] (st' := ⟨[(0, .one (.e (.sl 0 0 x1.length))), (3, .one (.e (.sl 1 0 x164.length))), (29, .one (.e (.sl 0 0 x1.length))), (30, I ((x1.length : Nat) : Int)), (31, I i165)], [.row .nod x1 false, .row .int x164 true]⟩) (by kernel_rfl) ?_
      refine W_skip ?_
      refine thenS_n ?_
      refine W_seq ?_
      refine bindO_e h (fun v226 hv226 h => ?_)
      refine W_cut (Q' := fun (e : Exit) (s : St) => (match v226 with | (.inl _) => e = .ret ∧ s = ⟨[(2, B false)], [.row .nod x1 false]⟩ | (.inr x225) => e = .normal ∧ s = ⟨[(0, .one (.e (.sl 0 0 x1.length))), (3, .one (.e (.sl 1 0 x225.length))), (29, .one (.e (.sl 0 0 x1.length))), (30, I ((x1.length : Nat) : Int)), (31, I i165)], [.row .nod x1 false, .row .int x225 true]⟩ : Prop)) ?_ ?_
      · refine W_block ?_
        refine W_seq ?_
        refine W_region ?_
        refine guardO_e hv226 (fun hg227 hv226 => ?_)
        refine WO_step 6 [0, 1, 2] [0, 3, 4, 5, 29, 30, 31] ((0 ≤ i165 ∧ i165 < ((x1.length : Nat) : Int)) ∧ (True ∧ (True ∧ (True ∧ True)))) ⟨[(0, .one (.e (.sl 0 0 x1.length))), (3, .one (.e (.sl 1 0 x164.length))), (4, I i165), (5, .one (.e (.p 2 0))), (29, .one (.e (.sl 0 0 x1.length))), (30, I ((x1.length : Nat) : Int)), (31, I i165)], [.row .nod x1 false, .row .int x164 true, .cells [cI ((x1.getD i165.toNat dnod).parent), cS ((x1.getD i165.toNat dnod).name), cI ((x1.getD i165.toNat dnod).value)]]⟩ (by kernel_rfl) ⟨hg227, trivial, trivial, trivial, trivial⟩ ?_
        refine WO_nil rfl ?_
        refine thenS_n ?_
        refine W_seq ?_
        refine W_seq ?_
        refine W_region ?_
        refine WO_step 2 [0, 1, 2] [0, 3, 4, 5, 29, 30, 31, 37] (True ∧ True) ⟨[(0, .one (.e (.sl 0 0 x1.length))), (3, .one (.e (.sl 1 0 x164.length))), (4, I i165), (5, .one (.e (.p 2 0))), (29, .one (.e (.sl 0 0 x1.length))), (30, I ((x1.length : Nat) : Int)), (31, I i165), (37, I ((x1.getD i165.toNat dnod).value))], [.row .nod x1 false, .row .int x164 true, .cells [cI ((x1.getD i165.toNat dnod).parent), cS ((x1.getD i165.toNat dnod).name), cI ((x1.getD i165.toNat dnod).value)]]⟩ (by kernel_rfl) ⟨trivial, trivial⟩ ?_
        refine WO_call [] Try.f46 rfl rfl rfl (by kernel_rfl) rfl rfl (by kernel_rfl) (impl_within_ok ((x1.getD i165.toNat dnod).value) (-1000) 1000) (trivial) rfl ?_
        refine WO_step 1 [0, 1, 2] [0, 3, 4, 5, 29, 30, 31, 39] True ⟨[(0, .one (.e (.sl 0 0 x1.length))), (3, .one (.e (.sl 1 0 x164.length))), (4, I i165), (5, .one (.e (.p 2 0))), (29, .one (.e (.sl 0 0 x1.length))), (30, I ((x1.length : Nat) : Int)), (31, I i165), (39, B (!(impl_within ((x1.getD i165.toNat dnod).value) (-1000) 1000)))], [.row .nod x1 false, .row .int x164 true, .cells [cI ((x1.getD i165.toNat dnod).parent), cS ((x1.getD i165.toNat dnod).name), cI ((x1.getD i165.toNat dnod).value)]]⟩ (by kernel_rfl) trivial ?_
        refine WO_nil rfl ?_
        refine thenS_n ?_
        refine iteO_e hv226 (fun hb229 hv226 => W_true rfl hb229 ?_) (fun hb229 hv226 => W_false rfl hb229 ?_)
        · refine W_seq ?_
          refine W_region ?_
          refine WO_step 1 [0] [2] True ⟨[(2, B false)], [.row .nod x1 false]⟩ (by kernel_rfl) trivial ?_
          refine WO_nil rfl ?_
          refine thenS_n ?_
          refine W_ret ?_
          refine thenS_r ?_
          refine blockS_r ?_
          cases hv226
          exact And.intro rfl rfl
        · refine W_sub [0, 1, 2] [0, 3, 4, 5, 29, 30, 31] (st' := ⟨[(0, .one (.e (.sl 0 0 x1.length))), (3, .one (.e (.sl 1 0 x164.length))), (4, I i165), (5, .one (.e (.p 2 0))), (29, .one (.e (.sl 0 0 x1.length))), (30, I ((x1.length : Nat) : Int)), (31, I i165)], [.row .nod x1 false, .row .int x164 true, .cells [cI ((x1.getD i165.toNat dnod).parent), cS ((x1.getD i165.toNat dnod).name), cI ((x1.getD i165.toNat dnod).value)]]⟩) (by kernel_rfl) ?_
          refine W_skip ?_
          refine thenS_n ?_
          refine W_seq ?_
          refine W_seq ?_
          refine W_region ?_
          refine WO_step 2 [0, 1, 2] [0, 3, 4, 5, 29, 30, 31, 41] (True ∧ True) ⟨[(0, .one (.e (.sl 0 0 x1.length))), (3, .one (.e (.sl 1 0 x164.length))), (4, I i165), (5, .one (.e (.p 2 0))), (29, .one (.e (.sl 0 0 x1.length))), (30, I ((x1.length : Nat) : Int)), (31, I i165), (41, B (decide (i165 = 0)))], [.row .nod x1 false, .row .int x164 true, .cells [cI ((x1.getD i165.toNat dnod).parent), cS ((x1.getD i165.toNat dnod).name), cI ((x1.getD i165.toNat dnod).value)]]⟩ (by kernel_rfl) ⟨trivial, trivial⟩ ?_
          refine WO_nil rfl ?_
          refine thenS_n ?_
          refine iteO_e hv226 (fun hb231 hv226 => W_true rfl hb231 ?_) (fun hb231 hv226 => W_false rfl hb231 ?_)
          · refine W_sub [0, 1] [0, 3, 29, 30, 31] (st' := ⟨[(0, .one (.e (.sl 0 0 x1.length))), (3, .one (.e (.sl 1 0 x164.length))), (29, .one (.e (.sl 0 0 x1.length))), (30, I ((x1.length : Nat) : Int)), (31, I i165)], [.row .nod x1 false, .row .int x164 true]⟩) (by kernel_rfl) ?_
            refine W_exit ?_
            refine thenS_e ?_
            refine blockS_y ?_
            cases hv226
            exact And.intro rfl rfl
          · refine W_sub [0, 1, 2] [0, 3, 4, 5, 29, 30, 31] (st' := ⟨[(0, .one (.e (.sl 0 0 x1.length))), (3, .one (.e (.sl 1 0 x164.length))), (4, I i165), (5, .one (.e (.p 2 0))), (29, .one (.e (.sl 0 0 x1.length))), (30, I ((x1.length : Nat) : Int)), (31, I i165)], [.row .nod x1 false, .row .int x164 true, .cells [cI ((x1.getD i165.toNat dnod).parent), cS ((x1.getD i165.toNat dnod).name), cI ((x1.getD i165.toNat dnod).value)]]⟩) (by kernel_rfl) ?_
            refine W_skip ?_
            refine thenS_n ?_
            refine W_seq ?_
            refine W_seq ?_
            refine W_region ?_
            refine WO_step 4 [0, 1, 2] [0, 3, 4, 5, 29, 30, 31, 43, 45] (True ∧ (True ∧ True)) ⟨[(0, .one (.e (.sl 0 0 x1.length))), (3, .one (.e (.sl 1 0 x164.length))), (4, I i165), (5, .one (.e (.p 2 0))), (29, .one (.e (.sl 0 0 x1.length))), (30, I ((x1.length : Nat) : Int)), (31, I i165), (43, I ((x1.getD i165.toNat dnod).parent)), (45, I (w64 (i165 - 1)))], [.row .nod x1 false, .row .int x164 true, .cells [cI ((x1.getD i165.toNat dnod).parent), cS ((x1.getD i165.toNat dnod).name), cI ((x1.getD i165.toNat dnod).value)]]⟩ (by kernel_rfl) ⟨trivial, trivial, trivial⟩ ?_
            refine WO_call [] Try.f46 rfl rfl rfl (by kernel_rfl) rfl rfl (by kernel_rfl) (impl_within_ok ((x1.getD i165.toNat dnod).parent) 0 (w64 (i165 - 1))) (trivial) rfl ?_
            refine WO_step 2 [0, 1, 2] [0, 3, 4, 5, 29, 30, 31, 48] True ⟨[(0, .one (.e (.sl 0 0 x1.length))), (3, .one (.e (.sl 1 0 x164.length))), (4, I i165), (5, .one (.e (.p 2 0))), (29, .one (.e (.sl 0 0 x1.length))), (30, I ((x1.length : Nat) : Int)), (31, I i165), (48, B (!(impl_within ((x1.getD i165.toNat dnod).parent) 0 (w64 (i165 - 1)))))], [.row .nod x1 false, .row .int x164 true, .cells [cI ((x1.getD i165.toNat dnod).parent), cS ((x1.getD i165.toNat dnod).name), cI ((x1.getD i165.toNat dnod).value)]]⟩ (by kernel_rfl) trivial ?_
            refine bindO_e hv226 (fun b235 hv236 hv226 => ?_)
            refine WO_thru ⟨[(0, .one (.e (.sl 0 0 x1.length))), (3, .one (.e (.sl 1 0 x164.length))), (4, I i165), (5, .one (.e (.p 2 0))), (29, .one (.e (.sl 0 0 x1.length))), (30, I ((x1.length : Nat) : Int)), (31, I i165), (53, B b235)], [.row .nod x1 false, .row .int x164 true, .cells [cI ((x1.getD i165.toNat dnod).parent), cS ((x1.getD i165.toNat dnod).name), cI ((x1.getD i165.toNat dnod).value)]]⟩ ?_ ?_
            · refine iteO_e hv236 (fun hb237 hv236 => WO_known 48 true rfl hb237 ?_) (fun hb237 hv236 => WO_known 48 false rfl hb237 ?_)
              · refine WO_step 5 [0, 1, 2] [0, 3, 4, 5, 29, 30, 31, 53] True ⟨[(0, .one (.e (.sl 0 0 x1.length))), (3, .one (.e (.sl 1 0 x164.length))), (4, I i165), (5, .one (.e (.p 2 0))), (29, .one (.e (.sl 0 0 x1.length))), (30, I ((x1.length : Nat) : Int)), (31, I i165), (53, B true)], [.row .nod x1 false, .row .int x164 true, .cells [cI ((x1.getD i165.toNat dnod).parent), cS ((x1.getD i165.toNat dnod).name), cI ((x1.getD i165.toNat dnod).value)]]⟩ (by kernel_rfl) trivial ?_
                cases hv236
                exact WO_nil rfl ⟨rfl, rfl⟩
              · refine WO_step 2 [0, 1, 2] [0, 3, 4, 5, 29, 30, 31, 48, 50] (True ∧ True) ⟨[(0, .one (.e (.sl 0 0 x1.length))), (3, .one (.e (.sl 1 0 x164.length))), (4, I i165), (5, .one (.e (.p 2 0))), (29, .one (.e (.sl 0 0 x1.length))), (30, I ((x1.length : Nat) : Int)), (31, I i165), (48, B false), (50, S ((x1.getD i165.toNat dnod).name))], [.row .nod x1 false, .row .int x164 true, .cells [cI ((x1.getD i165.toNat dnod).parent), cS ((x1.getD i165.toNat dnod).name), cI ((x1.getD i165.toNat dnod).value)]]⟩ (by kernel_rfl) ⟨trivial, trivial⟩ ?_
                refine bindO_e hv236 (fun b238 hc239 hv236 => ?_)
                refine WO_call [] Try.f63 rfl rfl rfl (by kernel_rfl) rfl rfl (by kernel_rfl) (impl_isName_ok n ((x1.getD i165.toNat dnod).name) b238 hc239) (trivial) rfl ?_
                refine WO_step 2 [0, 1, 2] [0, 3, 4, 5, 29, 30, 31, 53] True ⟨[(0, .one (.e (.sl 0 0 x1.length))), (3, .one (.e (.sl 1 0 x164.length))), (4, I i165), (5, .one (.e (.p 2 0))), (29, .one (.e (.sl 0 0 x1.length))), (30, I ((x1.length : Nat) : Int)), (31, I i165), (53, B (!b238))], [.row .nod x1 false, .row .int x164 true, .cells [cI ((x1.getD i165.toNat dnod).parent), cS ((x1.getD i165.toNat dnod).name), cI ((x1.getD i165.toNat dnod).value)]]⟩ (by kernel_rfl) trivial ?_
                cases hv236
                exact WO_nil rfl ⟨rfl, rfl⟩
            · refine thenS_n ?_
              refine iteO_e hv226 (fun hb241 hv226 => W_true rfl hb241 ?_) (fun hb241 hv226 => W_false rfl hb241 ?_)
              · refine W_seq ?_
                refine W_region ?_
                refine WO_step 1 [0] [2] True ⟨[(2, B false)], [.row .nod x1 false]⟩ (by kernel_rfl) trivial ?_
                refine WO_nil rfl ?_
                refine thenS_n ?_
                refine W_ret ?_
                refine thenS_r ?_
                refine blockS_r ?_
                cases hv226
                exact And.intro rfl rfl
              · refine W_sub [0, 1, 2] [0, 3, 4, 5, 29, 30, 31] (st' := ⟨[(0, .one (.e (.sl 0 0 x1.length))), (3, .one (.e (.sl 1 0 x164.length))), (4, I i165), (5, .one (.e (.p 2 0))), (29, .one (.e (.sl 0 0 x1.length))), (30, I ((x1.length : Nat) : Int)), (31, I i165)], [.row .nod x1 false, .row .int x164 true, .cells [cI ((x1.getD i165.toNat dnod).parent), cS ((x1.getD i165.toNat dnod).name), cI ((x1.getD i165.toNat dnod).value)]]⟩) (by kernel_rfl) ?_
                refine W_skip ?_
                refine thenS_n ?_
                refine W_seq ?_
                refine W_seq ?_
                refine guardO_e hv226 (fun hg242 hv226 => ?_)
                refine bindO_e hv226 (fun i243 hc244 hv226 => ?_)
                refine W_cut (Q' := fun (e : Exit) (s : St) => e = .normal ∧ s = ⟨[(0, .one (.e (.sl 0 0 x1.length))), (3, .one (.e (.sl 1 0 x164.length))), (4, I i165), (5, .one (.e (.p 2 0))), (29, .one (.e (.sl 0 0 x1.length))), (30, I ((x1.length : Nat) : Int)), (31, I i165), (62, B (decide (0 ≤ i243)))], [.row .nod x1 false, .row .int x164 true, .cells [cI ((x1.getD i165.toNat dnod).parent), cS ((x1.getD i165.toNat dnod).name), cI ((x1.getD i165.toNat dnod).value)]]⟩) ?_ ?_
                · refine W_draw [] false (by kernel_rfl) (by kernel_rfl) ?_
                  refine WD_takeK [0, 1, 3, 4, 5, 6] [0, 3, 4, 5, 29, 30, 31, 54, 55, 58, 60] [0, 3, 4, 5, 29, 30, 31, 54, 55, 58, 60] (φ := (True ∧ True ∧ (True ∧ True ∧ True))) (ls' := #[true, true, false, true, true, true, true, false, false]) (Ts' := [(0, .one (.e (.sl 0 0 x1.length))), (3, .one (.e (.sl 1 0 x164.length))), (4, I i165), (5, .one (.e (.p 2 0))), (29, .one (.e (.sl 0 0 x1.length))), (30, I ((x1.length : Nat) : Int)), (31, I i165), (54, .one (.e (.sl 0 0 x1.length))), (55, I i165), (58, I ((x1.getD i165.toNat dnod).parent)), (60, S ((x1.getD i165.toNat dnod).name))]) (st' := ⟨[(0, .one (.e (.sl 0 0 x1.length))), (3, .one (.e (.sl 1 0 x164.length))), (4, I i165), (5, .one (.e (.p 2 0))), (29, .one (.e (.sl 0 0 x1.length))), (30, I ((x1.length : Nat) : Int)), (31, I i165), (54, .one (.e (.sl 0 0 x1.length))), (55, I i165), (58, I ((x1.getD i165.toNat dnod).parent)), (60, S ((x1.getD i165.toNat dnod).name))], [.row .nod x1 false, .row .int x164 true, .cells [cI ((x1.getD i165.toNat dnod).parent), cS ((x1.getD i165.toNat dnod).name), cI ((x1.getD i165.toNat dnod).value)]]⟩) (n2 := 3) (by kernel_rfl) ⟨trivial, trivial, trivial, trivial, trivial⟩ rfl ?_
                  refine WD_all [2] (n := 2) (by kernel_rfl) rfl ?_
                  refine WM_op (φ := 0 ≤ i165 ∧ i165 ≤ ((x1.length : Nat) : Int)) (v := .one (.e (.sl 0 0 i165.toNat))) (H' := [.row .nod x1 false, .row .int x164 true, .cells [cI ((x1.getD i165.toNat dnod).parent), cS ((x1.getD i165.toNat dnod).name), cI ((x1.getD i165.toNat dnod).value)]]) rfl rfl (by kernel_rfl) hg242 rfl (And.intro rfl (And.intro rfl (And.intro (And.intro rfl rfl) (trivial)))) ?_
                  refine WD_all [7] (n := 1) (by kernel_rfl) rfl ?_
                  refine WM_call [.view 0] Try.f64 rfl rfl (by kernel_rfl) rfl rfl (by kernel_rfl) (impl_kidIn_ok n ((x1.drop 0).take i165.toNat) ((x1.getD i165.toNat dnod).parent) ((x1.getD i165.toNat dnod).name) i243 hc244) (trivial) rfl (And.intro rfl (And.intro rfl (And.intro (And.intro rfl rfl) (trivial)))) ?_
                  refine WD_takeK [8] [0, 3, 4, 5, 29, 30, 31, 62] [0, 3, 4, 5, 29, 30, 31, 62] (φ := (True ∧ True ∧ True)) (ls' := #[true, true, true, true, true, true, true, true, true]) (Ts' := [(0, .one (.e (.sl 0 0 x1.length))), (3, .one (.e (.sl 1 0 x164.length))), (4, I i165), (5, .one (.e (.p 2 0))), (29, .one (.e (.sl 0 0 x1.length))), (30, I ((x1.length : Nat) : Int)), (31, I i165), (62, B (decide (0 ≤ i243)))]) (st' := ⟨[(0, .one (.e (.sl 0 0 x1.length))), (3, .one (.e (.sl 1 0 x164.length))), (4, I i165), (5, .one (.e (.p 2 0))), (29, .one (.e (.sl 0 0 x1.length))), (30, I ((x1.length : Nat) : Int)), (31, I i165), (62, B (decide (0 ≤ i243)))], [.row .nod x1 false, .row .int x164 true, .cells [cI ((x1.getD i165.toNat dnod).parent), cS ((x1.getD i165.toNat dnod).name), cI ((x1.getD i165.toNat dnod).value)]]⟩) (n2 := 0) (by kernel_rfl) ⟨trivial, trivial, trivial⟩ rfl ?_
                  exact WD_done [0, 1, 2] [0, 3, 4, 5, 29, 30, 31, 62] (st' := ⟨[(0, .one (.e (.sl 0 0 x1.length))), (3, .one (.e (.sl 1 0 x164.length))), (4, I i165), (5, .one (.e (.p 2 0))), (29, .one (.e (.sl 0 0 x1.length))), (30, I ((x1.length : Nat) : Int)), (31, I i165), (62, B (decide (0 ≤ i243)))], [.row .nod x1 false, .row .int x164 true, .cells [cI ((x1.getD i165.toNat dnod).parent), cS ((x1.getD i165.toNat dnod).name), cI ((x1.getD i165.toNat dnod).value)]]⟩) (by kernel_rfl) (by kernel_rfl) (And.intro rfl rfl)
                · rintro _ _ ⟨rfl, rfl⟩
                  refine thenS_n ?_
                  refine iteO_e hv226 (fun hb246 hv226 => W_true rfl hb246 ?_) (fun hb246 hv226 => W_false rfl hb246 ?_)
                  · refine W_seq ?_
                    refine W_region ?_
                    refine WO_step 1 [0] [2] True ⟨[(2, B false)], [.row .nod x1 false]⟩ (by kernel_rfl) trivial ?_
                    refine WO_nil rfl ?_
                    refine thenS_n ?_
                    refine W_ret ?_
                    refine thenS_r ?_
                    refine blockS_r ?_
                    cases hv226
                    exact And.intro rfl rfl
                  · refine W_sub [0, 1, 2] [0, 3, 4, 5, 29, 30, 31] (st' := ⟨[(0, .one (.e (.sl 0 0 x1.length))), (3, .one (.e (.sl 1 0 x164.length))), (4, I i165), (5, .one (.e (.p 2 0))), (29, .one (.e (.sl 0 0 x1.length))), (30, I ((x1.length : Nat) : Int)), (31, I i165)], [.row .nod x1 false, .row .int x164 true, .cells [cI ((x1.getD i165.toNat dnod).parent), cS ((x1.getD i165.toNat dnod).name), cI ((x1.getD i165.toNat dnod).value)]]⟩) (by kernel_rfl) ?_
                    refine W_skip ?_
                    refine thenS_n ?_
                    refine W_seq ?_
                    refine W_region ?_
                    refine guardO_e hv226 (fun hg247 hv226 => ?_)
                    refine guardO_e hv226 (fun hg248 hv226 => ?_)
                    refine WO_step 10 [0, 1] [0, 3, 4, 29, 30, 31] (True ∧ ((0 ≤ (x1.getD i165.toNat dnod).parent ∧ (x1.getD i165.toNat dnod).parent < ((x164.length : Nat) : Int)) ∧ (True ∧ (True ∧ ((0 ≤ i165 ∧ i165 < ((x164.length : Nat) : Int)) ∧ (True ∧ True)))))) ⟨[(0, .one (.e (.sl 0 0 x1.length))), (3, .one (.e (.sl 1 0 x164.length))), (4, I i165), (29, .one (.e (.sl 0 0 x1.length))), (30, I ((x1.length : Nat) : Int)), (31, I i165)], [.row .nod x1 false, .row .int (x164.set i165.toNat (w64 ((x164.getD (((x1.getD i165.toNat dnod).parent).toNat) 0) + 1))) true]⟩ (by kernel_rfl) ⟨trivial, hg247, trivial, trivial, hg248, trivial, trivial⟩ ?_
                    refine WO_eq (st' := ⟨[(0, .one (.e (.sl 0 0 x1.length))), (3, .one (.e (.sl 1 0 ((x164.set i165.toNat (w64 ((x164.getD (((x1.getD i165.toNat dnod).parent).toNat) 0) + 1))).length)))), (4, I i165), (29, .one (.e (.sl 0 0 x1.length))), (30, I ((x1.length : Nat) : Int)), (31, I i165)], [.row .nod x1 false, .row .int (x164.set i165.toNat (w64 ((x164.getD (((x1.getD i165.toNat dnod).parent).toNat) 0) + 1))) true]⟩) (by simp only [List.length_set]) ?_
                    refine WO_nil rfl ?_
                    refine thenS_n ?_
                    refine W_seq ?_
                    refine W_region ?_
                    refine guardO_e hv226 (fun hg249 hv226 => ?_)
                    refine WO_step 5 [0, 1] [0, 3, 29, 30, 31, 76] ((0 ≤ i165 ∧ i165 < (((x164.set i165.toNat (w64 ((x164.getD (((x1.getD i165.toNat dnod).parent).toNat) 0) + 1))).length : Nat) : Int)) ∧ (True ∧ (True ∧ True))) ⟨[(0, .one (.e (.sl 0 0 x1.length))), (3, .one (.e (.sl 1 0 ((x164.set i165.toNat (w64 ((x164.getD (((x1.getD i165.toNat dnod).parent).toNat) 0) + 1))).length)))), (29, .one (.e (.sl 0 0 x1.length))), (30, I ((x1.length : Nat) : Int)), (31, I i165), (76, B (decide (4 < ((x164.set i165.toNat (w64 ((x164.getD (((x1.getD i165.toNat dnod).parent).toNat) 0) + 1))).getD i165.toNat 0))))], [.row .nod x1 false, .row .int (x164.set i165.toNat (w64 ((x164.getD (((x1.getD i165.toNat dnod).parent).toNat) 0) + 1))) true]⟩ (by kernel_rfl) ⟨hg249, trivial, trivial, trivial⟩ ?_
                    refine WO_nil rfl ?_
                    refine thenS_n ?_
                    refine iteO_e hv226 (fun hb251 hv226 => W_true rfl hb251 ?_) (fun hb251 hv226 => W_false rfl hb251 ?_)
                    · refine W_seq ?_
                      refine W_region ?_
                      refine WO_step 1 [0] [2] True ⟨[(2, B false)], [.row .nod x1 false]⟩ (by kernel_rfl) trivial ?_
                      refine WO_nil rfl ?_
                      refine thenS_n ?_
                      refine W_ret ?_
                      refine blockS_r ?_
                      cases hv226
                      exact And.intro rfl rfl
                    · refine W_sub [0, 1] [0, 3, 29, 30, 31] (st' := ⟨[(0, .one (.e (.sl 0 0 x1.length))), (3, .one (.e (.sl 1 0 ((x164.set i165.toNat (w64 ((x164.getD (((x1.getD i165.toNat dnod).parent).toNat) 0) + 1))).length)))), (29, .one (.e (.sl 0 0 x1.length))), (30, I ((x1.length : Nat) : Int)), (31, I i165)], [.row .nod x1 false, .row .int (x164.set i165.toNat (w64 ((x164.getD (((x1.getD i165.toNat dnod).parent).toNat) 0) + 1))) true]⟩) (by kernel_rfl) ?_
                      refine W_skip ?_
                      refine blockS_n ?_
                      cases hv226
                      exact And.intro rfl rfl
      · rcases v226 with _ | x225
        · rintro _ _ ⟨rfl, rfl⟩
          refine thenS_r ?_
          refine thenS_r ?_
          cases h
          exact And.intro rfl rfl
        · rintro _ _ ⟨rfl, rfl⟩
          refine thenS_n ?_
          refine W_region ?_
          refine WO_step 2 [0, 1] [0, 3, 29, 30, 31] (True ∧ True) ⟨[(0, .one (.e (.sl 0 0 x1.length))), (3, .one (.e (.sl 1 0 x225.length))), (29, .one (.e (.sl 0 0 x1.length))), (30, I ((x1.length : Nat) : Int)), (31, I (w64 (i165 + 1)))], [.row .nod x1 false, .row .int x225 true]⟩ (by kernel_rfl) ⟨trivial, trivial⟩ ?_
          refine WO_nil rfl ?_
          refine thenS_n ?_
          exact ih _ _ h
    · refine W_sub [0] [] (st' := ⟨[], [.row .nod x1 false]⟩) (by kernel_rfl) ?_
      refine W_exit ?_
      refine thenS_e ?_
      refine thenS_e ?_
      cases h
      exact And.intro rfl rfl

def impl_ValidTree (n : Nat) (x1 : List Nod) : Option (Bool) :=
 iteO ((decide (((x1.length : Nat) : Int) < 1)) || (decide (12 < ((x1.length : Nat) : Int))))
 (some false)
 (guardO (0 ≤ (0 : Int) ∧ (0 : Int) < ((x1.length : Nat) : Int)) <|
 bindO (iteO (!decide (((x1.getD 0 dnod).parent) = (-1)))
 (some true)
 (guardO (0 ≤ (0 : Int) ∧ (0 : Int) < ((x1.length : Nat) : Int)) <|
 some (!decide (((x1.getD 0 dnod).name) = [])))) fun b123 =>
 iteO b123
 (some false)
 (guardO ((((x1.length : Nat) : Int) : Int) = ((x1.length : Nat) : Int) ∧ 0 ≤ ((x1.length : Nat) : Int) ∧ ((x1.length : Nat) : Int) ≤ 1099511627776) <|
 bindO (impl_ValidTree_L1 x1 n (List.replicate (((x1.length : Nat) : Int).toNat) (0 : Int)) 0) fun v252 =>
 match v252 with
 | (.inl _) => (some false)
 | (.inr _) => (some true)
))

theorem impl_ValidTree_ok (n : Nat) (x1 : List Nod) (b114 : Bool) (h : impl_ValidTree n x1 = some b114) : FOk EE 45 [.one (.e (.sl 0 0 x1.length))] [.row .nod x1 false] (B b114) [.row .nod x1 false] := by
  unfold impl_ValidTree at h
  refine FOk_of_W 78 1 Try.func45 rfl rfl (Nat.le_of_ble_eq_true rfl) rfl (fun w X θ => ?_)
  refine W_seq ?_
  refine W_region ?_
  refine WO_step 1 [0] [0] True ⟨[(0, .one (.e (.sl 0 0 x1.length)))], [.row .nod x1 false]⟩ (by kernel_rfl) trivial ?_
  refine WO_nil rfl ?_
  refine thenS_n ?_
  refine W_seq ?_
  refine W_seq ?_
  refine W_region ?_
  refine WO_step 4 [0] [0, 9] (True ∧ (True ∧ True)) ⟨[(0, .one (.e (.sl 0 0 x1.length))), (9, B (decide (((x1.length : Nat) : Int) < 1)))], [.row .nod x1 false]⟩ (by kernel_rfl) ⟨trivial, trivial, trivial⟩ ?_
  refine WO_thru ⟨[(0, .one (.e (.sl 0 0 x1.length))), (13, B ((decide (((x1.length : Nat) : Int) < 1)) || (decide (12 < ((x1.length : Nat) : Int)))))], [.row .nod x1 false]⟩ ?_ ?_
  · refine WO_if 9 rfl (fun hb117 => ?_) (fun hb117 => ?_)
    · refine WO_step 4 [0] [0, 13] True ⟨[(0, .one (.e (.sl 0 0 x1.length))), (13, B true)], [.row .nod x1 false]⟩ (by kernel_rfl) trivial ?_
      exact WO_nil rfl ⟨rfl, by first | rfl | (rw [hb117]; first | done | rfl)⟩
    · refine WO_step 4 [0] [0, 13] (True ∧ (True ∧ True)) ⟨[(0, .one (.e (.sl 0 0 x1.length))), (13, B (decide (12 < ((x1.length : Nat) : Int))))], [.row .nod x1 false]⟩ (by kernel_rfl) ⟨trivial, trivial, trivial⟩ ?_
      exact WO_nil rfl ⟨rfl, by first | rfl | (rw [hb117]; first | done | rfl)⟩
  · refine thenS_n ?_
    refine iteO_e h (fun hb119 h => W_true rfl hb119 ?_) (fun hb119 h => W_false rfl hb119 ?_)
    · refine W_seq ?_
      refine W_region ?_
      refine WO_step 1 [0] [2] True ⟨[(2, B false)], [.row .nod x1 false]⟩ (by kernel_rfl) trivial ?_
      refine WO_nil rfl ?_
      refine thenS_n ?_
      refine W_ret ?_
      refine thenS_r ?_
      cases h
      exact ⟨[0], True, by kernel_rfl, trivial⟩
    · refine W_sub [0] [0] (st' := ⟨[(0, .one (.e (.sl 0 0 x1.length)))], [.row .nod x1 false]⟩) (by kernel_rfl) ?_
      refine W_skip ?_
      refine thenS_n ?_
      refine W_seq ?_
      refine W_seq ?_
      refine W_region ?_
      refine guardO_e h (fun hg120 h => ?_)
      refine WO_step 6 [0] [0, 19] ((0 ≤ (0 : Int) ∧ (0 : Int) < ((x1.length : Nat) : Int)) ∧ (True ∧ (True ∧ True))) ⟨[(0, .one (.e (.sl 0 0 x1.length))), (19, B (!decide (((x1.getD 0 dnod).parent) = (-1))))], [.row .nod x1 false]⟩ (by kernel_rfl) ⟨hg120, trivial, trivial, trivial⟩ ?_
      refine bindO_e h (fun b123 hv124 h => ?_)
      refine WO_thru ⟨[(0, .one (.e (.sl 0 0 x1.length))), (25, B b123)], [.row .nod x1 false]⟩ ?_ ?_
      · refine iteO_e hv124 (fun hb125 hv124 => WO_known 19 true rfl hb125 ?_) (fun hb125 hv124 => WO_known 19 false rfl hb125 ?_)
        · refine WO_step 6 [0] [0, 25] True ⟨[(0, .one (.e (.sl 0 0 x1.length))), (25, B true)], [.row .nod x1 false]⟩ (by kernel_rfl) trivial ?_
          cases hv124
          exact WO_nil rfl ⟨rfl, rfl⟩
        · refine guardO_e hv124 (fun hg126 hv124 => ?_)
          refine WO_step 6 [0] [0, 25] ((0 ≤ (0 : Int) ∧ (0 : Int) < ((x1.length : Nat) : Int)) ∧ (True ∧ (True ∧ True))) ⟨[(0, .one (.e (.sl 0 0 x1.length))), (25, B (!decide (((x1.getD 0 dnod).name) = [])))], [.row .nod x1 false]⟩ (by kernel_rfl) ⟨hg126, trivial, trivial, trivial⟩ ?_
          cases hv124
          exact WO_nil rfl ⟨rfl, rfl⟩
      · refine thenS_n ?_
        refine iteO_e h (fun hb128 h => W_true rfl hb128 ?_) (fun hb128 h => W_false rfl hb128 ?_)
        · refine W_seq ?_
          refine W_region ?_
          refine WO_step 1 [0] [2] True ⟨[(2, B false)], [.row .nod x1 false]⟩ (by kernel_rfl) trivial ?_
          refine WO_nil rfl ?_
          refine thenS_n ?_
          refine W_ret ?_
          refine thenS_r ?_
          cases h
          exact ⟨[0], True, by kernel_rfl, trivial⟩
        · refine W_sub [0] [0] (st' := ⟨[(0, .one (.e (.sl 0 0 x1.length)))], [.row .nod x1 false]⟩) (by kernel_rfl) ?_
          refine W_skip ?_
          refine thenS_n ?_
          refine W_seq ?_
          refine W_region ?_
          refine guardO_e h (fun hg129 h => ?_)
          refine WO_step 4 [0, 1] [0, 3] (True ∧ (((((x1.length : Nat) : Int) : Int) = ((x1.length : Nat) : Int) ∧ 0 ≤ ((x1.length : Nat) : Int) ∧ ((x1.length : Nat) : Int) ≤ 1099511627776) ∧ True)) ⟨[(0, .one (.e (.sl 0 0 x1.length))), (3, .one (.e (.sl 1 0 ((List.replicate (((x1.length : Nat) : Int).toNat) (0 : Int)).length))))], [.row .nod x1 false, .row .int (List.replicate (((x1.length : Nat) : Int).toNat) (0 : Int)) true]⟩ (by kernel_rfl) ⟨trivial, hg129, trivial⟩ ?_
          refine WO_nil rfl ?_
          refine thenS_n ?_
          refine W_seq ?_
          refine W_seq ?_
          refine W_region ?_
          refine WO_step 3 [0, 1] [0, 3, 29, 30, 31] (True ∧ True) ⟨[(0, .one (.e (.sl 0 0 x1.length))), (3, .one (.e (.sl 1 0 ((List.replicate (((x1.length : Nat) : Int).toNat) (0 : Int)).length)))), (29, .one (.e (.sl 0 0 x1.length))), (30, I ((x1.length : Nat) : Int)), (31, I 0)], [.row .nod x1 false, .row .int (List.replicate (((x1.length : Nat) : Int).toNat) (0 : Int)) true]⟩ (by kernel_rfl) ⟨trivial, trivial⟩ ?_
          refine WO_nil rfl ?_
          refine thenS_n ?_
          refine W_block ?_
          refine W_loop ?_
          refine bindO_e h (fun v252 hv252 h => ?_)
          refine WL_cut (impl_ValidTree_L1_ok w X θ x1 v252 n (List.replicate (((x1.length : Nat) : Int).toNat) (0 : Int)) 0 hv252) ?_
          rcases v252 with _ | _
          · rintro _ _ ⟨rfl, rfl⟩
            refine blockS_r ?_
            refine thenS_r ?_
            cases h
            exact ⟨[0], True, by kernel_rfl, trivial⟩
          · rintro _ _ ⟨rfl, rfl⟩
            refine blockS_y ?_
            refine thenS_n ?_
            refine W_seq ?_
            refine W_region ?_
            refine WO_step 1 [0] [2] True ⟨[(2, B true)], [.row .nod x1 false]⟩ (by kernel_rfl) trivial ?_
            refine WO_nil rfl ?_
            refine thenS_n ?_
            refine W_ret ?_
            cases h
            exact ⟨[0], True, by kernel_rfl, trivial⟩

/- impl.ValidLog -/
def impl_ValidLog_L1 (x1 : List Nod) (x2 : List Rcd) : Nat → Int → Option ((Unit) ⊕ (Unit))
| 0, _ => none
| n + 1, i155 =>
 iteO (decide (i155 < ((x2.length : Nat) : Int)))
 (guardO (0 ≤ i155 ∧ i155 < ((x2.length : Nat) : Int)) <|
 iteO ((!(impl_within ((x2.getD i155.toNat drcd).who) 0 3)) || ((!(impl_within ((x2.getD i155.toNat drcd).node) 0 (w64 (((x1.length : Nat) : Int) - 1)))) || (!(impl_within ((x2.getD i155.toNat drcd).value) (-1000) 1000))))
 (some (.inl ()))
 (iteO ((x2.getD i155.toNat drcd).fin && ((!decide (((x2.getD i155.toNat drcd).node) = 0)) || (!decide (((x2.getD i155.toNat drcd).value) = 0))))
 (some (.inl ()))
 (impl_ValidLog_L1 x1 x2 n (w64 (i155 + 1)))))
 (some (.inr ()))

theorem impl_ValidLog_L1_ok (w : World) (X : Nat → Prop) (θ : List Loc) (x1 : List Nod) (x2 : List Rcd) (v : (Unit) ⊕ (Unit)) : ∀ (n : Nat) (i155 : Int), impl_ValidLog_L1 x1 x2 n i155 = some v → WL EE ⟨w, X, θ, 53, 2⟩ (subC [1, 1, 0, 1, 4, 4] (bodyC Try.f16)) (fun (e : Exit) (s : St) => (match v with | (.inl _) => e = .ret ∧ s = ⟨[(4, B false)], [.row .nod x1 false, .row .rcd x2 false]⟩ | (.inr _) => e = .exit 0 ∧ s = ⟨[], [.row .nod x1 false, .row .rcd x2 false]⟩ : Prop)) ⟨[(0, .one (.e (.sl 0 0 x1.length))), (15, .one (.e (.sl 1 0 x2.length))), (16, I ((x2.length : Nat) : Int)), (17, I i155)], [.row .nod x1 false, .row .rcd x2 false]⟩ := by
  intro n
  induction n with
  | zero => intro _ h; exact none_e h
  | succ n ih =>
    intro i155 h
    rw [impl_ValidLog_L1] at h
    refine WL_round ?_
    refine W_seq ?_
    refine W_region ?_
    refine WO_step 1 [0, 1] [0, 15, 16, 17, 18] (True ∧ True) ⟨[(0, .one (.e (.sl 0 0 x1.length))), (15, .one (.e (.sl 1 0 x2.length))), (16, I ((x2.length : Nat) : Int)), (17, I i155), (18, B (decide (i155 < ((x2.length : Nat) : Int))))], [.row .nod x1 false, .row .rcd x2 false]⟩ (by kernel_rfl) ⟨trivial, trivial⟩ ?_
    refine WO_nil rfl ?_
    refine thenS_n ?_
    refine W_seq ?_
    refine iteO_e h (fun hb191 h => W_true rfl hb191 ?_) (fun hb191 h => W_false rfl hb191 ?_)
    · refine W_sub [0, 1] [0, 15, 16, 17] (st' := ⟨[(0, .one (.e (.sl 0 0 x1.length))), (15, .one (.e (.sl 1 0 x2.length))), (16, I ((x2.length : Nat) : Int)), (17, I i155)], [.row .nod x1 false, .row .rcd x2 false]⟩) (by kernel_rfl) ?_
      refine W_skip ?_
      refine thenS_n ?_
      refine W_seq ?_
      refine W_block ?_
      refine W_seq ?_
      refine W_region ?_
      refine guardO_e h (fun hg207 h => ?_)
      refine WO_step 4 [0, 1, 2] [0, 6, 15, 16, 17] ((0 ≤ i155 ∧ i155 < ((x2.length : Nat) : Int)) ∧ (True ∧ (True ∧ (True ∧ True)))) ⟨[(0, .one (.e (.sl 0 0 x1.length))), (6, .one (.e (.p 2 0))), (15, .one (.e (.sl 1 0 x2.length))), (16, I ((x2.length : Nat) : Int)), (17, I i155)], [.row .nod x1 false, .row .rcd x2 false, .cells [cI ((x2.getD i155.toNat drcd).who), cI ((x2.getD i155.toNat drcd).node), cI ((x2.getD i155.toNat drcd).value), cB ((x2.getD i155.toNat drcd).fin)]]⟩ (by kernel_rfl) ⟨hg207, trivial, trivial, trivial, trivial⟩ ?_
      refine WO_nil rfl ?_
      refine thenS_n ?_
      refine W_seq ?_
      refine W_seq ?_
      refine W_region ?_
      refine WO_step 2 [0, 1, 2] [0, 6, 15, 16, 17, 22] (True ∧ True) ⟨[(0, .one (.e (.sl 0 0 x1.length))), (6, .one (.e (.p 2 0))), (15, .one (.e (.sl 1 0 x2.length))), (16, I ((x2.length : Nat) : Int)), (17, I i155), (22, I ((x2.getD i155.toNat drcd).who))], [.row .nod x1 false, .row .rcd x2 false, .cells [cI ((x2.getD i155.toNat drcd).who), cI ((x2.getD i155.toNat drcd).node), cI ((x2.getD i155.toNat drcd).value), cB ((x2.getD i155.toNat drcd).fin)]]⟩ (by kernel_rfl) ⟨trivial, trivial⟩ ?_
      refine WO_call [] Try.f46 rfl rfl rfl (by kernel_rfl) rfl rfl (by kernel_rfl) (impl_within_ok ((x2.getD i155.toNat drcd).who) 0 3) (trivial) rfl ?_
      refine WO_step 2 [0, 1, 2] [0, 6, 15, 16, 17, 25] True ⟨[(0, .one (.e (.sl 0 0 x1.length))), (6, .one (.e (.p 2 0))), (15, .one (.e (.sl 1 0 x2.length))), (16, I ((x2.length : Nat) : Int)), (17, I i155), (25, B (!(impl_within ((x2.getD i155.toNat drcd).who) 0 3)))], [.row .nod x1 false, .row .rcd x2 false, .cells [cI ((x2.getD i155.toNat drcd).who), cI ((x2.getD i155.toNat drcd).node), cI ((x2.getD i155.toNat drcd).value), cB ((x2.getD i155.toNat drcd).fin)]]⟩ (by kernel_rfl) trivial ?_
      refine WO_thru ⟨[(0, .one (.e (.sl 0 0 x1.length))), (6, .one (.e (.p 2 0))), (15, .one (.e (.sl 1 0 x2.length))), (16, I ((x2.length : Nat) : Int)), (17, I i155), (39, B ((!(impl_within ((x2.getD i155.toNat drcd).who) 0 3)) || ((!(impl_within ((x2.getD i155.toNat drcd).node) 0 (w64 (((x1.length : Nat) : Int) - 1)))) || (!(impl_within ((x2.getD i155.toNat drcd).value) (-1000) 1000)))))], [.row .nod x1 false, .row .rcd x2 false, .cells [cI ((x2.getD i155.toNat drcd).who), cI ((x2.getD i155.toNat drcd).node), cI ((x2.getD i155.toNat drcd).value), cB ((x2.getD i155.toNat drcd).fin)]]⟩ ?_ ?_
      · refine WO_if 25 rfl (fun hb211 => ?_) (fun hb211 => ?_)
        · refine WO_step 14 [0, 1, 2] [0, 6, 15, 16, 17, 39] True ⟨[(0, .one (.e (.sl 0 0 x1.length))), (6, .one (.e (.p 2 0))), (15, .one (.e (.sl 1 0 x2.length))), (16, I ((x2.length : Nat) : Int)), (17, I i155), (39, B true)], [.row .nod x1 false, .row .rcd x2 false, .cells [cI ((x2.getD i155.toNat drcd).who), cI ((x2.getD i155.toNat drcd).node), cI ((x2.getD i155.toNat drcd).value), cB ((x2.getD i155.toNat drcd).fin)]]⟩ (by kernel_rfl) trivial ?_
          exact WO_nil rfl ⟨rfl, by first | rfl | (rw [hb211]; first | done | rfl)⟩
        · refine WO_step 5 [0, 1, 2] [0, 6, 15, 16, 17, 25, 27, 30] (True ∧ (True ∧ (True ∧ True))) ⟨[(0, .one (.e (.sl 0 0 x1.length))), (6, .one (.e (.p 2 0))), (15, .one (.e (.sl 1 0 x2.length))), (16, I ((x2.length : Nat) : Int)), (17, I i155), (25, B false), (27, I ((x2.getD i155.toNat drcd).node)), (30, I (w64 (((x1.length : Nat) : Int) - 1)))], [.row .nod x1 false, .row .rcd x2 false, .cells [cI ((x2.getD i155.toNat drcd).who), cI ((x2.getD i155.toNat drcd).node), cI ((x2.getD i155.toNat drcd).value), cB ((x2.getD i155.toNat drcd).fin)]]⟩ (by kernel_rfl) ⟨trivial, trivial, trivial, trivial⟩ ?_
          refine WO_call [] Try.f46 rfl rfl rfl (by kernel_rfl) rfl rfl (by kernel_rfl) (impl_within_ok ((x2.getD i155.toNat drcd).node) 0 (w64 (((x1.length : Nat) : Int) - 1))) (trivial) rfl ?_
          refine WO_step 3 [0, 1, 2] [0, 6, 15, 16, 17, 34] True ⟨[(0, .one (.e (.sl 0 0 x1.length))), (6, .one (.e (.p 2 0))), (15, .one (.e (.sl 1 0 x2.length))), (16, I ((x2.length : Nat) : Int)), (17, I i155), (34, B (!(impl_within ((x2.getD i155.toNat drcd).node) 0 (w64 (((x1.length : Nat) : Int) - 1)))))], [.row .nod x1 false, .row .rcd x2 false, .cells [cI ((x2.getD i155.toNat drcd).who), cI ((x2.getD i155.toNat drcd).node), cI ((x2.getD i155.toNat drcd).value), cB ((x2.getD i155.toNat drcd).fin)]]⟩ (by kernel_rfl) trivial ?_
          refine WO_if 34 rfl (fun hb212 => ?_) (fun hb212 => ?_)
          · refine WO_step 5 [0, 1, 2] [0, 6, 15, 16, 17, 39] True ⟨[(0, .one (.e (.sl 0 0 x1.length))), (6, .one (.e (.p 2 0))), (15, .one (.e (.sl 1 0 x2.length))), (16, I ((x2.length : Nat) : Int)), (17, I i155), (39, B true)], [.row .nod x1 false, .row .rcd x2 false, .cells [cI ((x2.getD i155.toNat drcd).who), cI ((x2.getD i155.toNat drcd).node), cI ((x2.getD i155.toNat drcd).value), cB ((x2.getD i155.toNat drcd).fin)]]⟩ (by kernel_rfl) trivial ?_
            exact WO_nil rfl ⟨rfl, by first | rfl | (simp only [hb211, hb212]; first | done | rfl)⟩
          · refine WO_step 2 [0, 1, 2] [0, 6, 15, 16, 17, 34, 36] (True ∧ True) ⟨[(0, .one (.e (.sl 0 0 x1.length))), (6, .one (.e (.p 2 0))), (15, .one (.e (.sl 1 0 x2.length))), (16, I ((x2.length : Nat) : Int)), (17, I i155), (34, B false), (36, I ((x2.getD i155.toNat drcd).value))], [.row .nod x1 false, .row .rcd x2 false, .cells [cI ((x2.getD i155.toNat drcd).who), cI ((x2.getD i155.toNat drcd).node), cI ((x2.getD i155.toNat drcd).value), cB ((x2.getD i155.toNat drcd).fin)]]⟩ (by kernel_rfl) ⟨trivial, trivial⟩ ?_
            refine WO_call [] Try.f46 rfl rfl rfl (by kernel_rfl) rfl rfl (by kernel_rfl) (impl_within_ok ((x2.getD i155.toNat drcd).value) (-1000) 1000) (trivial) rfl ?_
            refine WO_step 2 [0, 1, 2] [0, 6, 15, 16, 17, 39] True ⟨[(0, .one (.e (.sl 0 0 x1.length))), (6, .one (.e (.p 2 0))), (15, .one (.e (.sl 1 0 x2.length))), (16, I ((x2.length : Nat) : Int)), (17, I i155), (39, B (!(impl_within ((x2.getD i155.toNat drcd).value) (-1000) 1000)))], [.row .nod x1 false, .row .rcd x2 false, .cells [cI ((x2.getD i155.toNat drcd).who), cI ((x2.getD i155.toNat drcd).node), cI ((x2.getD i155.toNat drcd).value), cB ((x2.getD i155.toNat drcd).fin)]]⟩ (by kernel_rfl) trivial ?_
            exact WO_nil rfl ⟨rfl, by first | rfl | (simp only [hb211, hb212]; first | done | rfl)⟩
      · refine thenS_n ?_
        refine iteO_e h (fun hb214 h => W_true rfl hb214 ?_) (fun hb214 h => W_false rfl hb214 ?_)
        · refine W_seq ?_
          refine W_region ?_
          refine WO_step 1 [0, 1] [4] True ⟨[(4, B false)], [.row .nod x1 false, .row .rcd x2 false]⟩ (by kernel_rfl) trivial ?_
          refine WO_nil rfl ?_
          refine thenS_n ?_
          refine W_ret ?_
          refine thenS_r ?_
          refine blockS_r ?_
          refine thenS_r ?_
          refine thenS_r ?_
          cases h
          exact And.intro rfl rfl
        · refine W_sub [0, 1, 2] [0, 6, 15, 16, 17] (st' := ⟨[(0, .one (.e (.sl 0 0 x1.length))), (6, .one (.e (.p 2 0))), (15, .one (.e (.sl 1 0 x2.length))), (16, I ((x2.length : Nat) : Int)), (17, I i155)], [.row .nod x1 false, .row .rcd x2 false, .cells [cI ((x2.getD i155.toNat drcd).who), cI ((x2.getD i155.toNat drcd).node), cI ((x2.getD i155.toNat drcd).value), cB ((x2.getD i155.toNat drcd).fin)]]⟩) (by kernel_rfl) ?_
          refine W_skip ?_
          refine thenS_n ?_
          refine W_seq ?_
          refine W_region ?_
          refine WO_step 3 [0, 1, 2] [0, 6, 15, 16, 17, 42] (True ∧ True) ⟨[(0, .one (.e (.sl 0 0 x1.length))), (6, .one (.e (.p 2 0))), (15, .one (.e (.sl 1 0 x2.length))), (16, I ((x2.length : Nat) : Int)), (17, I i155), (42, B ((x2.getD i155.toNat drcd).fin))], [.row .nod x1 false, .row .rcd x2 false, .cells [cI ((x2.getD i155.toNat drcd).who), cI ((x2.getD i155.toNat drcd).node), cI ((x2.getD i155.toNat drcd).value), cB ((x2.getD i155.toNat drcd).fin)]]⟩ (by kernel_rfl) ⟨trivial, trivial⟩ ?_
          refine WO_thru ⟨[(0, .one (.e (.sl 0 0 x1.length))), (15, .one (.e (.sl 1 0 x2.length))), (16, I ((x2.length : Nat) : Int)), (17, I i155), (51, B ((x2.getD i155.toNat drcd).fin && ((!decide (((x2.getD i155.toNat drcd).node) = 0)) || (!decide (((x2.getD i155.toNat drcd).value) = 0)))))], [.row .nod x1 false, .row .rcd x2 false]⟩ ?_ ?_
          · refine WO_if 42 rfl (fun hb218 => ?_) (fun hb218 => ?_)
            · refine WO_step 4 [0, 1, 2] [0, 6, 15, 16, 17, 42, 46] (True ∧ (True ∧ True)) ⟨[(0, .one (.e (.sl 0 0 x1.length))), (6, .one (.e (.p 2 0))), (15, .one (.e (.sl 1 0 x2.length))), (16, I ((x2.length : Nat) : Int)), (17, I i155), (42, B true), (46, B (!decide (((x2.getD i155.toNat drcd).node) = 0)))], [.row .nod x1 false, .row .rcd x2 false, .cells [cI ((x2.getD i155.toNat drcd).who), cI ((x2.getD i155.toNat drcd).node), cI ((x2.getD i155.toNat drcd).value), cB ((x2.getD i155.toNat drcd).fin)]]⟩ (by kernel_rfl) ⟨trivial, trivial, trivial⟩ ?_
              refine WO_if 46 rfl (fun hb219 => ?_) (fun hb219 => ?_)
              · refine WO_step 5 [0, 1] [0, 15, 16, 17, 51] True ⟨[(0, .one (.e (.sl 0 0 x1.length))), (15, .one (.e (.sl 1 0 x2.length))), (16, I ((x2.length : Nat) : Int)), (17, I i155), (51, B true)], [.row .nod x1 false, .row .rcd x2 false]⟩ (by kernel_rfl) trivial ?_
                exact WO_nil rfl ⟨rfl, by first | rfl | (simp only [hb218, hb219]; first | done | rfl)⟩
              · refine WO_step 5 [0, 1] [0, 15, 16, 17, 51] (True ∧ (True ∧ True)) ⟨[(0, .one (.e (.sl 0 0 x1.length))), (15, .one (.e (.sl 1 0 x2.length))), (16, I ((x2.length : Nat) : Int)), (17, I i155), (51, B (!decide (((x2.getD i155.toNat drcd).value) = 0)))], [.row .nod x1 false, .row .rcd x2 false]⟩ (by kernel_rfl) ⟨trivial, trivial, trivial⟩ ?_
                exact WO_nil rfl ⟨rfl, by first | rfl | (simp only [hb218, hb219]; first | done | rfl)⟩
            · refine WO_step 9 [0, 1] [0, 15, 16, 17, 51] True ⟨[(0, .one (.e (.sl 0 0 x1.length))), (15, .one (.e (.sl 1 0 x2.length))), (16, I ((x2.length : Nat) : Int)), (17, I i155), (51, B false)], [.row .nod x1 false, .row .rcd x2 false]⟩ (by kernel_rfl) trivial ?_
              exact WO_nil rfl ⟨rfl, by first | rfl | (rw [hb218]; first | done | rfl)⟩
          · refine thenS_n ?_
            refine iteO_e h (fun hb221 h => W_true rfl hb221 ?_) (fun hb221 h => W_false rfl hb221 ?_)
            · refine W_seq ?_
              refine W_region ?_
              refine WO_step 1 [0, 1] [4] True ⟨[(4, B false)], [.row .nod x1 false, .row .rcd x2 false]⟩ (by kernel_rfl) trivial ?_
              refine WO_nil rfl ?_
              refine thenS_n ?_
              refine W_ret ?_
              refine blockS_r ?_
              refine thenS_r ?_
              refine thenS_r ?_
              cases h
              exact And.intro rfl rfl
            · refine W_sub [0, 1] [0, 15, 16, 17] (st' := ⟨[(0, .one (.e (.sl 0 0 x1.length))), (15, .one (.e (.sl 1 0 x2.length))), (16, I ((x2.length : Nat) : Int)), (17, I i155)], [.row .nod x1 false, .row .rcd x2 false]⟩) (by kernel_rfl) ?_
              refine W_skip ?_
              refine blockS_n ?_
              refine thenS_n ?_
              refine W_region ?_
              refine WO_step 2 [0, 1] [0, 15, 16, 17] (True ∧ True) ⟨[(0, .one (.e (.sl 0 0 x1.length))), (15, .one (.e (.sl 1 0 x2.length))), (16, I ((x2.length : Nat) : Int)), (17, I (w64 (i155 + 1)))], [.row .nod x1 false, .row .rcd x2 false]⟩ (by kernel_rfl) ⟨trivial, trivial⟩ ?_
              refine WO_nil rfl ?_
              refine thenS_n ?_
              exact ih _ h
    · refine W_sub [0, 1] [] (st' := ⟨[], [.row .nod x1 false, .row .rcd x2 false]⟩) (by kernel_rfl) ?_
      refine W_exit ?_
      refine thenS_e ?_
      refine thenS_e ?_
      cases h
      exact And.intro rfl rfl

def impl_ValidLog (n : Nat) (x1 : List Nod) (x2 : List Rcd) : Option (Bool) :=
 bindO (impl_ValidTree n x1) fun b113 =>
 iteO ((!b113) || (decide (16 < ((x2.length : Nat) : Int))))
 (some false)
 (bindO (impl_ValidLog_L1 x1 x2 n 0) fun v222 =>
 match v222 with
 | (.inl _) => (some false)
 | (.inr _) => (some true)
)

theorem impl_ValidLog_ok (n : Nat) (x1 : List Nod) (x2 : List Rcd) (b112 : Bool) (h : impl_ValidLog n x1 x2 = some b112) : FOk EE 16 [.one (.e (.sl 0 0 x1.length)), .one (.e (.sl 1 0 x2.length))] [.row .nod x1 false, .row .rcd x2 false] (B b112) [.row .nod x1 false, .row .rcd x2 false] := by
  unfold impl_ValidLog at h
  refine FOk_of_W 53 2 Try.func16 rfl rfl (Nat.le_of_ble_eq_true rfl) rfl (fun w X θ => ?_)
  refine W_seq ?_
  refine W_region ?_
  refine WO_step 1 [0, 1] [0, 1] True ⟨[(0, .one (.e (.sl 0 0 x1.length))), (1, .one (.e (.sl 1 0 x2.length)))], [.row .nod x1 false, .row .rcd x2 false]⟩ (by kernel_rfl) trivial ?_
  refine WO_nil rfl ?_
  refine thenS_n ?_
  refine W_seq ?_
  refine W_seq ?_
  refine W_region ?_
  refine WO_step 1 [0, 1] [0, 1, 7] True ⟨[(0, .one (.e (.sl 0 0 x1.length))), (1, .one (.e (.sl 1 0 x2.length))), (7, .one (.e (.sl 0 0 x1.length)))], [.row .nod x1 false, .row .rcd x2 false]⟩ (by kernel_rfl) trivial ?_
  refine bindO_e h (fun b113 hc114 h => ?_)
  refine WO_call [.ro 0] Try.f45 rfl rfl rfl (by kernel_rfl) rfl rfl (by kernel_rfl) (impl_ValidTree_ok n x1 b113 hc114) (And.intro (And.intro rfl rfl) (trivial)) rfl ?_
  refine WO_step 2 [0, 1] [0, 1, 10] True ⟨[(0, .one (.e (.sl 0 0 x1.length))), (1, .one (.e (.sl 1 0 x2.length))), (10, B (!b113))], [.row .nod x1 false, .row .rcd x2 false]⟩ (by kernel_rfl) trivial ?_
  refine WO_thru ⟨[(0, .one (.e (.sl 0 0 x1.length))), (1, .one (.e (.sl 1 0 x2.length))), (14, B ((!b113) || (decide (16 < ((x2.length : Nat) : Int)))))], [.row .nod x1 false, .row .rcd x2 false]⟩ ?_ ?_
  · refine WO_if 10 rfl (fun hb117 => ?_) (fun hb117 => ?_)
    · refine WO_step 4 [0, 1] [0, 1, 14] True ⟨[(0, .one (.e (.sl 0 0 x1.length))), (1, .one (.e (.sl 1 0 x2.length))), (14, B true)], [.row .nod x1 false, .row .rcd x2 false]⟩ (by kernel_rfl) trivial ?_
      exact WO_nil rfl ⟨rfl, by first | rfl | (rw [hb117]; first | done | rfl)⟩
    · refine WO_step 4 [0, 1] [0, 1, 14] (True ∧ (True ∧ True)) ⟨[(0, .one (.e (.sl 0 0 x1.length))), (1, .one (.e (.sl 1 0 x2.length))), (14, B (decide (16 < ((x2.length : Nat) : Int))))], [.row .nod x1 false, .row .rcd x2 false]⟩ (by kernel_rfl) ⟨trivial, trivial, trivial⟩ ?_
      exact WO_nil rfl ⟨rfl, by first | rfl | (rw [hb117]; first | done | rfl)⟩
  · refine thenS_n ?_
    refine iteO_e h (fun hb119 h => W_true rfl hb119 ?_) (fun hb119 h => W_false rfl hb119 ?_)
    · refine W_seq ?_
      refine W_region ?_
      refine WO_step 1 [0, 1] [4] True ⟨[(4, B false)], [.row .nod x1 false, .row .rcd x2 false]⟩ (by kernel_rfl) trivial ?_
      refine WO_nil rfl ?_
      refine thenS_n ?_
      refine W_ret ?_
      refine thenS_r ?_
      cases h
      exact ⟨[0, 1], True, by kernel_rfl, trivial⟩
    · refine W_sub [0, 1] [0, 1] (st' := ⟨[(0, .one (.e (.sl 0 0 x1.length))), (1, .one (.e (.sl 1 0 x2.length)))], [.row .nod x1 false, .row .rcd x2 false]⟩) (by kernel_rfl) ?_
      refine W_skip ?_
      refine thenS_n ?_
      refine W_seq ?_
      refine W_seq ?_
      refine W_region ?_
      refine WO_step 3 [0, 1] [0, 15, 16, 17] (True ∧ True) ⟨[(0, .one (.e (.sl 0 0 x1.length))), (15, .one (.e (.sl 1 0 x2.length))), (16, I ((x2.length : Nat) : Int)), (17, I 0)], [.row .nod x1 false, .row .rcd x2 false]⟩ (by kernel_rfl) ⟨trivial, trivial⟩ ?_
      refine WO_nil rfl ?_
      refine thenS_n ?_
      refine W_block ?_
      refine W_loop ?_
      refine bindO_e h (fun v222 hv222 h => ?_)
      refine WL_cut (impl_ValidLog_L1_ok w X θ x1 x2 v222 n 0 hv222) ?_
      rcases v222 with _ | _
      · rintro _ _ ⟨rfl, rfl⟩
        refine blockS_r ?_
        refine thenS_r ?_
        cases h
        exact ⟨[0, 1], True, by kernel_rfl, trivial⟩
      · rintro _ _ ⟨rfl, rfl⟩
        refine blockS_y ?_
        refine thenS_n ?_
        refine W_seq ?_
        refine W_region ?_
        refine WO_step 1 [0, 1] [4] True ⟨[(4, B true)], [.row .nod x1 false, .row .rcd x2 false]⟩ (by kernel_rfl) trivial ?_
        refine WO_nil rfl ?_
        refine thenS_n ?_
        refine W_ret ?_
        cases h
        exact ⟨[0, 1], True, by kernel_rfl, trivial⟩

/- impl.isDone -/
def impl_isDone_L1 (x1 : List Rcd) (i2 : Int) : Nat → Int → Option ((Unit) ⊕ (Unit))
| 0, _ => none
| n + 1, i85 =>
 iteO (decide (i85 < (((x1.length - (w64 (i2 + 1)).toNat) : Nat) : Int)))
 (guardO (0 ≤ i85 ∧ i85 < (((x1.length - (w64 (i2 + 1)).toNat) : Nat) : Int)) <|
 bindO (iteO ((x1.getD (addN ((w64 (i2 + 1)).toNat) i85.toNat) drcd).fin)
 (guardO (0 ≤ i2 ∧ i2 < ((x1.length : Nat) : Int)) <|
 some (decide (((x1.getD (addN ((w64 (i2 + 1)).toNat) i85.toNat) drcd).who) = ((x1.getD i2.toNat drcd).who))))
 (some false)) fun b116 =>
 iteO b116
 (some (.inl ()))
 (impl_isDone_L1 x1 i2 n (w64 (i85 + 1))))
 (some (.inr ()))

theorem impl_isDone_L1_ok (w : World) (X : Nat → Prop) (θ : List Loc) (x1 : List Rcd) (i2 : Int) (v : (Unit) ⊕ (Unit)) : ∀ (n : Nat) (i85 : Int), impl_isDone_L1 x1 i2 n i85 = some v → WL EE ⟨w, X, θ, 34, 1⟩ (subC [1, 1, 0, 1, 4, 4] (bodyC Try.f40)) (fun (e : Exit) (s : St) => (match v with | (.inl _) => e = .ret ∧ s = ⟨[(4, B true)], [.row .rcd x1 false]⟩ | (.inr _) => e = .exit 0 ∧ s = ⟨[], [.row .rcd x1 false]⟩ : Prop)) ⟨[(0, .one (.e (.sl 0 0 x1.length))), (1, I i2), (15, .one (.e (.sl 0 ((w64 (i2 + 1)).toNat) (x1.length - (w64 (i2 + 1)).toNat)))), (16, I (((x1.length - (w64 (i2 + 1)).toNat) : Nat) : Int)), (17, I i85)], [.row .rcd x1 false]⟩ := by
  intro n
  induction n with
  | zero => intro _ h; exact none_e h
  | succ n ih =>
    intro i85 h
    rw [impl_isDone_L1] at h
    refine WL_round ?_
    refine W_seq ?_
    refine W_region ?_
    refine WO_step 1 [0] [0, 1, 15, 16, 17, 18] (True ∧ True) ⟨[(0, .one (.e (.sl 0 0 x1.length))), (1, I i2), (15, .one (.e (.sl 0 ((w64 (i2 + 1)).toNat) (x1.length - (w64 (i2 + 1)).toNat)))), (16, I (((x1.length - (w64 (i2 + 1)).toNat) : Nat) : Int)), (17, I i85), (18, B (decide (i85 < (((x1.length - (w64 (i2 + 1)).toNat) : Nat) : Int))))], [.row .rcd x1 false]⟩ (by kernel_rfl) ⟨trivial, trivial⟩ ?_
    refine WO_nil rfl ?_
    refine thenS_n ?_
    refine W_seq ?_
    refine iteO_e h (fun hb105 h => W_true rfl hb105 ?_) (fun hb105 h => W_false rfl hb105 ?_)
    · refine W_sub [0] [0, 1, 15, 16, 17] (st' := ⟨[(0, .one (.e (.sl 0 0 x1.length))), (1, I i2), (15, .one (.e (.sl 0 ((w64 (i2 + 1)).toNat) (x1.length - (w64 (i2 + 1)).toNat)))), (16, I (((x1.length - (w64 (i2 + 1)).toNat) : Nat) : Int)), (17, I i85)], [.row .rcd x1 false]⟩) (by kernel_rfl) ?_
      refine W_skip ?_
      refine thenS_n ?_
      refine W_seq ?_
      refine W_block ?_
      refine W_seq ?_
      refine W_region ?_
      refine guardO_e h (fun hg113 h => ?_)
      refine WO_step 4 [0, 1] [0, 1, 6, 15, 16, 17] ((0 ≤ i85 ∧ i85 < (((x1.length - (w64 (i2 + 1)).toNat) : Nat) : Int)) ∧ (True ∧ (True ∧ (True ∧ True)))) ⟨[(0, .one (.e (.sl 0 0 x1.length))), (1, I i2), (6, .one (.e (.p 1 0))), (15, .one (.e (.sl 0 ((w64 (i2 + 1)).toNat) (x1.length - (w64 (i2 + 1)).toNat)))), (16, I (((x1.length - (w64 (i2 + 1)).toNat) : Nat) : Int)), (17, I i85)], [.row .rcd x1 false, .cells [cI ((x1.getD (addN ((w64 (i2 + 1)).toNat) i85.toNat) drcd).who), cI ((x1.getD (addN ((w64 (i2 + 1)).toNat) i85.toNat) drcd).node), cI ((x1.getD (addN ((w64 (i2 + 1)).toNat) i85.toNat) drcd).value), cB ((x1.getD (addN ((w64 (i2 + 1)).toNat) i85.toNat) drcd).fin)]]⟩ (by kernel_rfl) ⟨hg113, trivial, trivial, trivial, trivial⟩ ?_
      refine WO_nil rfl ?_
      refine thenS_n ?_
      refine W_seq ?_
      refine bindO_e h (fun b116 hv117 h => ?_)
      refine W_cut (Q' := fun (e : Exit) (s : St) => e = .normal ∧ s = ⟨[(0, .one (.e (.sl 0 0 x1.length))), (1, I i2), (15, .one (.e (.sl 0 ((w64 (i2 + 1)).toNat) (x1.length - (w64 (i2 + 1)).toNat)))), (16, I (((x1.length - (w64 (i2 + 1)).toNat) : Nat) : Int)), (17, I i85), (32, B b116)], [.row .rcd x1 false]⟩) ?_ ?_
      · refine iteO_e hv117 (fun hb114 hv117 => ?_) (fun hb114 hv117 => ?_)
        · refine guardO_e hv117 (fun hg115 hv117 => ?_)
          refine W_draw [] true (by kernel_rfl) (by kernel_rfl) ?_
          refine WD_takeK [0, 1, 2] [0, 1, 6, 15, 16, 17, 23] [0, 1, 6, 15, 16, 17, 23] (φ := (True ∧ True ∧ True)) (ls' := #[true, true, true, false, false, false, false, false, false, false, false, false]) (Ts' := [(0, .one (.e (.sl 0 0 x1.length))), (1, I i2), (6, .one (.e (.p 1 0))), (15, .one (.e (.sl 0 ((w64 (i2 + 1)).toNat) (x1.length - (w64 (i2 + 1)).toNat)))), (16, I (((x1.length - (w64 (i2 + 1)).toNat) : Nat) : Int)), (17, I i85), (23, B ((x1.getD (addN ((w64 (i2 + 1)).toNat) i85.toNat) drcd).fin))]) (st' := ⟨[(0, .one (.e (.sl 0 0 x1.length))), (1, I i2), (6, .one (.e (.p 1 0))), (15, .one (.e (.sl 0 ((w64 (i2 + 1)).toNat) (x1.length - (w64 (i2 + 1)).toNat)))), (16, I (((x1.length - (w64 (i2 + 1)).toNat) : Nat) : Int)), (17, I i85), (23, B ((x1.getD (addN ((w64 (i2 + 1)).toNat) i85.toNat) drcd).fin))], [.row .rcd x1 false, .cells [cI ((x1.getD (addN ((w64 (i2 + 1)).toNat) i85.toNat) drcd).who), cI ((x1.getD (addN ((w64 (i2 + 1)).toNat) i85.toNat) drcd).node), cI ((x1.getD (addN ((w64 (i2 + 1)).toNat) i85.toNat) drcd).value), cB ((x1.getD (addN ((w64 (i2 + 1)).toNat) i85.toNat) drcd).fin)]]⟩) (n2 := 9) (by kernel_rfl) ⟨trivial, trivial, trivial⟩ rfl ?_
          refine WD_known 23 true rfl rfl hb114 ?_
          refine WD_takeK [3, 4, 5, 6, 7, 8, 9, 10, 11] [0, 1, 15, 16, 17, 32] [0, 1, 15, 16, 17, 32] (φ := (True ∧ True ∧ ((0 ≤ i2 ∧ i2 < ((x1.length : Nat) : Int)) ∧ (0 ≤ i2 ∧ i2 < ((x1.length : Nat) : Int)) ∧ (True ∧ True ∧ (True ∧ True ∧ True))))) (ls' := #[true, true, true, true, true, true, true, true, true, true, true, true]) (Ts' := [(0, .one (.e (.sl 0 0 x1.length))), (1, I i2), (15, .one (.e (.sl 0 ((w64 (i2 + 1)).toNat) (x1.length - (w64 (i2 + 1)).toNat)))), (16, I (((x1.length - (w64 (i2 + 1)).toNat) : Nat) : Int)), (17, I i85), (32, B (decide (((x1.getD (addN ((w64 (i2 + 1)).toNat) i85.toNat) drcd).who) = ((x1.getD i2.toNat drcd).who))))]) (st' := ⟨[(0, .one (.e (.sl 0 0 x1.length))), (1, I i2), (15, .one (.e (.sl 0 ((w64 (i2 + 1)).toNat) (x1.length - (w64 (i2 + 1)).toNat)))), (16, I (((x1.length - (w64 (i2 + 1)).toNat) : Nat) : Int)), (17, I i85), (32, B (decide (((x1.getD (addN ((w64 (i2 + 1)).toNat) i85.toNat) drcd).who) = ((x1.getD i2.toNat drcd).who))))], [.row .rcd x1 false, .cells [cI ((x1.getD (addN ((w64 (i2 + 1)).toNat) i85.toNat) drcd).who), cI ((x1.getD (addN ((w64 (i2 + 1)).toNat) i85.toNat) drcd).node), cI ((x1.getD (addN ((w64 (i2 + 1)).toNat) i85.toNat) drcd).value), cB ((x1.getD (addN ((w64 (i2 + 1)).toNat) i85.toNat) drcd).fin)]]⟩) (n2 := 0) (by kernel_rfl) ⟨trivial, trivial, hg115, hg115, trivial, trivial, trivial, trivial, trivial⟩ rfl ?_
          exact WD_done [0] [0, 1, 15, 16, 17, 32] (st' := ⟨[(0, .one (.e (.sl 0 0 x1.length))), (1, I i2), (15, .one (.e (.sl 0 ((w64 (i2 + 1)).toNat) (x1.length - (w64 (i2 + 1)).toNat)))), (16, I (((x1.length - (w64 (i2 + 1)).toNat) : Nat) : Int)), (17, I i85), (32, B (decide (((x1.getD (addN ((w64 (i2 + 1)).toNat) i85.toNat) drcd).who) = ((x1.getD i2.toNat drcd).who))))], [.row .rcd x1 false]⟩) (by kernel_rfl) (by kernel_rfl) (And.intro rfl (by cases hv117; rfl))
        · refine W_draw [] true (by kernel_rfl) (by kernel_rfl) ?_
          refine WD_takeK [0, 1, 2] [0, 1, 6, 15, 16, 17, 23] [0, 1, 6, 15, 16, 17, 23] (φ := (True ∧ True ∧ True)) (ls' := #[true, true, true, false, false, false, false, false, false, false, false, false]) (Ts' := [(0, .one (.e (.sl 0 0 x1.length))), (1, I i2), (6, .one (.e (.p 1 0))), (15, .one (.e (.sl 0 ((w64 (i2 + 1)).toNat) (x1.length - (w64 (i2 + 1)).toNat)))), (16, I (((x1.length - (w64 (i2 + 1)).toNat) : Nat) : Int)), (17, I i85), (23, B ((x1.getD (addN ((w64 (i2 + 1)).toNat) i85.toNat) drcd).fin))]) (st' := ⟨[(0, .one (.e (.sl 0 0 x1.length))), (1, I i2), (6, .one (.e (.p 1 0))), (15, .one (.e (.sl 0 ((w64 (i2 + 1)).toNat) (x1.length - (w64 (i2 + 1)).toNat)))), (16, I (((x1.length - (w64 (i2 + 1)).toNat) : Nat) : Int)), (17, I i85), (23, B ((x1.getD (addN ((w64 (i2 + 1)).toNat) i85.toNat) drcd).fin))], [.row .rcd x1 false, .cells [cI ((x1.getD (addN ((w64 (i2 + 1)).toNat) i85.toNat) drcd).who), cI ((x1.getD (addN ((w64 (i2 + 1)).toNat) i85.toNat) drcd).node), cI ((x1.getD (addN ((w64 (i2 + 1)).toNat) i85.toNat) drcd).value), cB ((x1.getD (addN ((w64 (i2 + 1)).toNat) i85.toNat) drcd).fin)]]⟩) (n2 := 9) (by kernel_rfl) ⟨trivial, trivial, trivial⟩ rfl ?_
          refine WD_known 23 false rfl rfl hb114 ?_
          refine WD_takeK [3, 4, 5, 6, 7, 8, 9, 10, 11] [0, 1, 15, 16, 17, 32] [0, 1, 15, 16, 17, 32] (φ := True) (ls' := #[true, true, true, true, true, true, true, true, true, true, true, true]) (Ts' := [(0, .one (.e (.sl 0 0 x1.length))), (1, I i2), (15, .one (.e (.sl 0 ((w64 (i2 + 1)).toNat) (x1.length - (w64 (i2 + 1)).toNat)))), (16, I (((x1.length - (w64 (i2 + 1)).toNat) : Nat) : Int)), (17, I i85), (32, B false)]) (st' := ⟨[(0, .one (.e (.sl 0 0 x1.length))), (1, I i2), (15, .one (.e (.sl 0 ((w64 (i2 + 1)).toNat) (x1.length - (w64 (i2 + 1)).toNat)))), (16, I (((x1.length - (w64 (i2 + 1)).toNat) : Nat) : Int)), (17, I i85), (32, B false)], [.row .rcd x1 false, .cells [cI ((x1.getD (addN ((w64 (i2 + 1)).toNat) i85.toNat) drcd).who), cI ((x1.getD (addN ((w64 (i2 + 1)).toNat) i85.toNat) drcd).node), cI ((x1.getD (addN ((w64 (i2 + 1)).toNat) i85.toNat) drcd).value), cB ((x1.getD (addN ((w64 (i2 + 1)).toNat) i85.toNat) drcd).fin)]]⟩) (n2 := 0) (by kernel_rfl) trivial rfl ?_
          exact WD_done [0] [0, 1, 15, 16, 17, 32] (st' := ⟨[(0, .one (.e (.sl 0 0 x1.length))), (1, I i2), (15, .one (.e (.sl 0 ((w64 (i2 + 1)).toNat) (x1.length - (w64 (i2 + 1)).toNat)))), (16, I (((x1.length - (w64 (i2 + 1)).toNat) : Nat) : Int)), (17, I i85), (32, B false)], [.row .rcd x1 false]⟩) (by kernel_rfl) (by kernel_rfl) (And.intro rfl (by cases hv117; rfl))
      · rintro _ _ ⟨rfl, rfl⟩
        refine thenS_n ?_
        refine iteO_e h (fun hb119 h => W_true rfl hb119 ?_) (fun hb119 h => W_false rfl hb119 ?_)
        · refine W_seq ?_
          refine W_region ?_
          refine WO_step 1 [0] [4] True ⟨[(4, B true)], [.row .rcd x1 false]⟩ (by kernel_rfl) trivial ?_
          refine WO_nil rfl ?_
          refine thenS_n ?_
          refine W_ret ?_
          refine blockS_r ?_
          refine thenS_r ?_
          refine thenS_r ?_
          cases h
          exact And.intro rfl rfl
        · refine W_sub [0] [0, 1, 15, 16, 17] (st' := ⟨[(0, .one (.e (.sl 0 0 x1.length))), (1, I i2), (15, .one (.e (.sl 0 ((w64 (i2 + 1)).toNat) (x1.length - (w64 (i2 + 1)).toNat)))), (16, I (((x1.length - (w64 (i2 + 1)).toNat) : Nat) : Int)), (17, I i85)], [.row .rcd x1 false]⟩) (by kernel_rfl) ?_
          refine W_skip ?_
          refine blockS_n ?_
          refine thenS_n ?_
          refine W_region ?_
          refine WO_step 2 [0] [0, 1, 15, 16, 17] (True ∧ True) ⟨[(0, .one (.e (.sl 0 0 x1.length))), (1, I i2), (15, .one (.e (.sl 0 ((w64 (i2 + 1)).toNat) (x1.length - (w64 (i2 + 1)).toNat)))), (16, I (((x1.length - (w64 (i2 + 1)).toNat) : Nat) : Int)), (17, I (w64 (i85 + 1)))], [.row .rcd x1 false]⟩ (by kernel_rfl) ⟨trivial, trivial⟩ ?_
          refine WO_nil rfl ?_
          refine thenS_n ?_
          exact ih _ h
    · refine W_sub [0] [] (st' := ⟨[], [.row .rcd x1 false]⟩) (by kernel_rfl) ?_
      refine W_exit ?_
      refine thenS_e ?_
      refine thenS_e ?_
      cases h
      exact And.intro rfl rfl

def impl_isDone (n : Nat) (x1 : List Rcd) (i2 : Int) : Option (Bool) :=
 guardO (0 ≤ i2 ∧ i2 < ((x1.length : Nat) : Int)) <|
 iteO ((x1.getD i2.toNat drcd).fin)
 (some false)
 (guardO (0 ≤ (w64 (i2 + 1)) ∧ (w64 (i2 + 1)) ≤ ((x1.length : Nat) : Int)) <|
 bindO (impl_isDone_L1 x1 i2 n 0) fun v120 =>
 match v120 with
 | (.inl _) => (some true)
 | (.inr _) => (some false)
)

theorem impl_isDone_ok (n : Nat) (x1 : List Rcd) (i2 : Int) (b61 : Bool) (h : impl_isDone n x1 i2 = some b61) : FOk EE 40 [.one (.e (.sl 0 0 x1.length)), I i2] [.row .rcd x1 false] (B b61) [.row .rcd x1 false] := by
  unfold impl_isDone at h
  refine FOk_of_W 34 1 Try.func40 rfl rfl (Nat.le_of_ble_eq_true rfl) rfl (fun w X θ => ?_)
  refine W_seq ?_
  refine W_region ?_
  refine WO_step 1 [0] [0, 1] True ⟨[(0, .one (.e (.sl 0 0 x1.length))), (1, I i2)], [.row .rcd x1 false]⟩ (by kernel_rfl) trivial ?_
  refine WO_nil rfl ?_
  refine thenS_n ?_
  refine W_seq ?_
  refine W_seq ?_
  refine W_region ?_
  refine guardO_e h (fun hg62 h => ?_)
  refine WO_step 5 [0] [0, 1, 11] ((0 ≤ i2 ∧ i2 < ((x1.length : Nat) : Int)) ∧ (True ∧ True)) ⟨[(0, .one (.e (.sl 0 0 x1.length))), (1, I i2), (11, B ((x1.getD i2.toNat drcd).fin))], [.row .rcd x1 false]⟩ (by kernel_rfl) ⟨hg62, trivial, trivial⟩ ?_
  refine WO_nil rfl ?_
  refine thenS_n ?_
  refine iteO_e h (fun hb64 h => W_true rfl hb64 ?_) (fun hb64 h => W_false rfl hb64 ?_)
  · refine W_seq ?_
    refine W_region ?_
    refine WO_step 1 [0] [4] True ⟨[(4, B false)], [.row .rcd x1 false]⟩ (by kernel_rfl) trivial ?_
    refine WO_nil rfl ?_
    refine thenS_n ?_
    refine W_ret ?_
    refine thenS_r ?_
    cases h
    exact ⟨[0], True, by kernel_rfl, trivial⟩
  · refine W_sub [0] [0, 1] (st' := ⟨[(0, .one (.e (.sl 0 0 x1.length))), (1, I i2)], [.row .rcd x1 false]⟩) (by kernel_rfl) ?_
    refine W_skip ?_
    refine thenS_n ?_
    refine W_seq ?_
    refine W_seq ?_
    refine W_region ?_
    refine guardO_e h (fun hg65 h => ?_)
    refine WO_step 6 [0] [0, 1, 15, 16, 17] (True ∧ ((0 ≤ (w64 (i2 + 1)) ∧ (w64 (i2 + 1)) ≤ ((x1.length : Nat) : Int)) ∧ (True ∧ True))) ⟨[(0, .one (.e (.sl 0 0 x1.length))), (1, I i2), (15, .one (.e (.sl 0 ((w64 (i2 + 1)).toNat) (x1.length - (w64 (i2 + 1)).toNat)))), (16, I (((x1.length - (w64 (i2 + 1)).toNat) : Nat) : Int)), (17, I 0)], [.row .rcd x1 false]⟩ (by kernel_rfl) ⟨trivial, hg65, trivial, trivial⟩ ?_
    refine WO_nil rfl ?_
    refine thenS_n ?_
    refine W_block ?_
    refine W_loop ?_
    refine bindO_e h (fun v120 hv120 h => ?_)
    refine WL_cut (impl_isDone_L1_ok w X θ x1 i2 v120 n 0 hv120) ?_
    rcases v120 with _ | _
    · rintro _ _ ⟨rfl, rfl⟩
      refine blockS_r ?_
      refine thenS_r ?_
      cases h
      exact ⟨[0], True, by kernel_rfl, trivial⟩
    · rintro _ _ ⟨rfl, rfl⟩
      refine blockS_y ?_
      refine thenS_n ?_
      refine W_seq ?_
      refine W_region ?_
      refine WO_step 1 [0] [4] True ⟨[(4, B false)], [.row .rcd x1 false]⟩ (by kernel_rfl) trivial ?_
      refine WO_nil rfl ?_
      refine thenS_n ?_
      refine W_ret ?_
      cases h
      exact ⟨[0], True, by kernel_rfl, trivial⟩

/- impl.isReplaced -/
def impl_isReplaced_L1 (x1 : List Rcd) (i2 : Int) : Nat → Int → Option ((Unit) ⊕ (Unit))
| 0, _ => none
| n + 1, i93 =>
 iteO (decide (i93 < ((x1.length : Nat) : Int)))
 (guardO (0 ≤ i93 ∧ i93 < ((x1.length : Nat) : Int)) <|
 guardO (0 ≤ i2 ∧ i2 < ((x1.length : Nat) : Int)) <|
 bindO (iteO (decide (((x1.getD i93.toNat drcd).node) = ((x1.getD i2.toNat drcd).node)))
 (bindO (impl_isDone n x1 i93) fun b130 =>
 some b130)
 (some false)) fun b132 =>
 iteO b132
 (some (.inl ()))
 (impl_isReplaced_L1 x1 i2 n (w64 (i93 + 1))))
 (some (.inr ()))

theorem impl_isReplaced_L1_ok (w : World) (X : Nat → Prop) (θ : List Loc) (x1 : List Rcd) (i2 : Int) (v : (Unit) ⊕ (Unit)) : ∀ (n : Nat) (i93 : Int), impl_isReplaced_L1 x1 i2 n i93 = some v → WL EE ⟨w, X, θ, 30, 1⟩ (subC [1, 0, 1, 4, 4] (bodyC Try.f48)) (fun (e : Exit) (s : St) => (match v with | (.inl _) => e = .ret ∧ s = ⟨[(4, B true)], [.row .rcd x1 false]⟩ | (.inr _) => e = .exit 0 ∧ s = ⟨[], [.row .rcd x1 false]⟩ : Prop)) ⟨[(0, .one (.e (.sl 0 0 x1.length))), (1, I i2), (5, I i93)], [.row .rcd x1 false]⟩ := by
  intro n
  induction n with
  | zero => intro _ h; exact none_e h
  | succ n ih =>
    intro i93 h
    rw [impl_isReplaced_L1] at h
    refine WL_round ?_
    refine W_seq ?_
    refine W_seq ?_
    refine W_region ?_
    refine WO_step 4 [0] [0, 1, 5, 11] (True ∧ (True ∧ True)) ⟨[(0, .one (.e (.sl 0 0 x1.length))), (1, I i2), (5, I i93), (11, B (decide (i93 < ((x1.length : Nat) : Int))))], [.row .rcd x1 false]⟩ (by kernel_rfl) ⟨trivial, trivial, trivial⟩ ?_
    refine WO_nil rfl ?_
    refine thenS_n ?_
    refine iteO_e h (fun hb117 h => W_true rfl hb117 ?_) (fun hb117 h => W_false rfl hb117 ?_)
    · refine W_sub [0] [0, 1, 5] (st' := ⟨[(0, .one (.e (.sl 0 0 x1.length))), (1, I i2), (5, I i93)], [.row .rcd x1 false]⟩) (by kernel_rfl) ?_
      refine W_skip ?_
      refine thenS_n ?_
      refine W_seq ?_
      refine W_block ?_
      refine W_seq ?_
      refine guardO_e h (fun hg127 h => ?_)
      refine guardO_e h (fun hg128 h => ?_)
      refine bindO_e h (fun b132 hv133 h => ?_)
      refine W_cut (Q' := fun (e : Exit) (s : St) => e = .normal ∧ s = ⟨[(0, .one (.e (.sl 0 0 x1.length))), (1, I i2), (5, I i93), (29, B b132)], [.row .rcd x1 false]⟩) ?_ ?_
      · refine iteO_e hv133 (fun hb129 hv133 => ?_) (fun hb129 hv133 => ?_)
        · refine bindO_e hv133 (fun b130 hc131 hv133 => ?_)
          refine W_draw [] false (by kernel_rfl) (by kernel_rfl) ?_
          refine WD_takeK [0, 1, 2, 3, 4, 5, 6, 7, 8, 9, 10, 11] [0, 1, 5, 25] [0, 1, 5, 25] (φ := ((0 ≤ i93 ∧ i93 < ((x1.length : Nat) : Int)) ∧ (0 ≤ i93 ∧ i93 < ((x1.length : Nat) : Int)) ∧ (True ∧ True ∧ ((0 ≤ i2 ∧ i2 < ((x1.length : Nat) : Int)) ∧ (0 ≤ i2 ∧ i2 < ((x1.length : Nat) : Int)) ∧ (True ∧ True ∧ (True ∧ True ∧ True)))))) (ls' := #[true, true, true, true, true, true, true, true, true, true, true, true, false, false, false, false]) (Ts' := [(0, .one (.e (.sl 0 0 x1.length))), (1, I i2), (5, I i93), (25, B (decide (((x1.getD i93.toNat drcd).node) = ((x1.getD i2.toNat drcd).node))))]) (st' := ⟨[(0, .one (.e (.sl 0 0 x1.length))), (1, I i2), (5, I i93), (25, B (decide (((x1.getD i93.toNat drcd).node) = ((x1.getD i2.toNat drcd).node))))], [.row .rcd x1 false]⟩) (n2 := 4) (by kernel_rfl) ⟨hg127, hg127, trivial, trivial, hg128, hg128, trivial, trivial, trivial, trivial, trivial⟩ rfl ?_
          refine WD_known 25 true rfl rfl hb129 ?_
          refine WD_takeK [12, 13] [0, 1, 5, 25, 26, 27] [0, 1, 5, 25, 26, 27] (φ := True) (ls' := #[true, true, true, true, true, true, true, true, true, true, true, true, true, true, false, false]) (Ts' := [(0, .one (.e (.sl 0 0 x1.length))), (1, I i2), (5, I i93), (25, B true), (26, .one (.e (.sl 0 0 x1.length))), (27, I i93)]) (st' := ⟨[(0, .one (.e (.sl 0 0 x1.length))), (1, I i2), (5, I i93), (25, B true), (26, .one (.e (.sl 0 0 x1.length))), (27, I i93)], [.row .rcd x1 false]⟩) (n2 := 2) (by kernel_rfl) trivial rfl ?_
          refine WD_all [14] (n := 1) (by kernel_rfl) rfl ?_
          refine WM_call [.ro 0] Try.f40 rfl rfl (by kernel_rfl) rfl rfl (by kernel_rfl) (impl_isDone_ok n x1 i93 b130 hc131) (And.intro (And.intro rfl rfl) (trivial)) rfl (And.intro rfl (trivial)) ?_
          refine WD_takeK [15] [0, 1, 5, 29] [0, 1, 5, 29] (φ := True) (ls' := #[true, true, true, true, true, true, true, true, true, true, true, true, true, true, true, true]) (Ts' := [(0, .one (.e (.sl 0 0 x1.length))), (1, I i2), (5, I i93), (29, B b130)]) (st' := ⟨[(0, .one (.e (.sl 0 0 x1.length))), (1, I i2), (5, I i93), (29, B b130)], [.row .rcd x1 false]⟩) (n2 := 0) (by kernel_rfl) trivial rfl ?_
          exact WD_done [0] [0, 1, 5, 29] (st' := ⟨[(0, .one (.e (.sl 0 0 x1.length))), (1, I i2), (5, I i93), (29, B b130)], [.row .rcd x1 false]⟩) (by kernel_rfl) (by kernel_rfl) (And.intro rfl (by cases hv133; rfl))
        · refine W_draw [] false (by kernel_rfl) (by kernel_rfl) ?_
          refine WD_takeK [0, 1, 2, 3, 4, 5, 6, 7, 8, 9, 10, 11] [0, 1, 5, 25] [0, 1, 5, 25] (φ := ((0 ≤ i93 ∧ i93 < ((x1.length : Nat) : Int)) ∧ (0 ≤ i93 ∧ i93 < ((x1.length : Nat) : Int)) ∧ (True ∧ True ∧ ((0 ≤ i2 ∧ i2 < ((x1.length : Nat) : Int)) ∧ (0 ≤ i2 ∧ i2 < ((x1.length : Nat) : Int)) ∧ (True ∧ True ∧ (True ∧ True ∧ True)))))) (ls' := #[true, true, true, true, true, true, true, true, true, true, true, true, false, false, false, false]) (Ts' := [(0, .one (.e (.sl 0 0 x1.length))), (1, I i2), (5, I i93), (25, B (decide (((x1.getD i93.toNat drcd).node) = ((x1.getD i2.toNat drcd).node))))]) (st' := ⟨[(0, .one (.e (.sl 0 0 x1.length))), (1, I i2), (5, I i93), (25, B (decide (((x1.getD i93.toNat drcd).node) = ((x1.getD i2.toNat drcd).node))))], [.row .rcd x1 false]⟩) (n2 := 4) (by kernel_rfl) ⟨hg127, hg127, trivial, trivial, hg128, hg128, trivial, trivial, trivial, trivial, trivial⟩ rfl ?_
          refine WD_known 25 false rfl rfl hb129 ?_
          refine WD_takeK [12, 13, 14, 15] [0, 1, 5, 29] [0, 1, 5, 29] (φ := True) (ls' := #[true, true, true, true, true, true, true, true, true, true, true, true, true, true, true, true]) (Ts' := [(0, .one (.e (.sl 0 0 x1.length))), (1, I i2), (5, I i93), (29, B false)]) (st' := ⟨[(0, .one (.e (.sl 0 0 x1.length))), (1, I i2), (5, I i93), (29, B false)], [.row .rcd x1 false]⟩) (n2 := 0) (by kernel_rfl) trivial rfl ?_
          exact WD_done [0] [0, 1, 5, 29] (st' := ⟨[(0, .one (.e (.sl 0 0 x1.length))), (1, I i2), (5, I i93), (29, B false)], [.row .rcd x1 false]⟩) (by kernel_rfl) (by kernel_rfl) (And.intro rfl (by cases hv133; rfl))
      · rintro _ _ ⟨rfl, rfl⟩
        refine thenS_n ?_
        refine iteO_e h (fun hb135 h => W_true rfl hb135 ?_) (fun hb135 h => W_false rfl hb135 ?_)
        · refine W_seq ?_
          refine W_region ?_
          refine WO_step 1 [0] [4] True ⟨[(4, B true)], [.row .rcd x1 false]⟩ (by kernel_rfl) trivial ?_
          refine WO_nil rfl ?_
          refine thenS_n ?_
          refine W_ret ?_
          refine blockS_r ?_
          refine thenS_r ?_
          refine thenS_r ?_
          cases h
          exact And.intro rfl rfl
        · refine W_sub [0] [0, 1, 5] (st' := ⟨[(0, .one (.e (.sl 0 0 x1.length))), (1, I i2), (5, I i93)], [.row .rcd x1 false]⟩) (by kernel_rfl) ?_
          refine W_skip ?_
          refine blockS_n ?_
          refine thenS_n ?_
          refine W_region ?_
          refine WO_step 3 [0] [0, 1, 5] (True ∧ True) ⟨[(0, .one (.e (.sl 0 0 x1.length))), (1, I i2), (5, I (w64 (i93 + 1)))], [.row .rcd x1 false]⟩ (by kernel_rfl) ⟨trivial, trivial⟩ ?_
          refine WO_nil rfl ?_
          refine thenS_n ?_
          exact ih _ h
    · refine W_sub [0] [] (st' := ⟨[], [.row .rcd x1 false]⟩) (by kernel_rfl) ?_
      refine W_exit ?_
      refine thenS_e ?_
      refine thenS_e ?_
      cases h
      exact And.intro rfl rfl

def impl_isReplaced (n : Nat) (x1 : List Rcd) (i2 : Int) : Option (Bool) :=
 bindO (impl_isReplaced_L1 x1 i2 n (w64 (i2 + 1))) fun v136 =>
 match v136 with
 | (.inl _) => (some true)
 | (.inr _) => (some false)


theorem impl_isReplaced_ok (n : Nat) (x1 : List Rcd) (i2 : Int) (b69 : Bool) (h : impl_isReplaced n x1 i2 = some b69) : FOk EE 48 [.one (.e (.sl 0 0 x1.length)), I i2] [.row .rcd x1 false] (B b69) [.row .rcd x1 false] := by
  unfold impl_isReplaced at h
  refine FOk_of_W 30 1 Try.func48 rfl rfl (Nat.le_of_ble_eq_true rfl) rfl (fun w X θ => ?_)
  refine W_seq ?_
  refine W_region ?_
  refine WO_step 1 [0] [0, 1] True ⟨[(0, .one (.e (.sl 0 0 x1.length))), (1, I i2)], [.row .rcd x1 false]⟩ (by kernel_rfl) trivial ?_
  refine WO_nil rfl ?_
  refine thenS_n ?_
  refine W_seq ?_
  refine W_seq ?_
  refine W_region ?_
  refine WO_step 3 [0] [0, 1, 5] (True ∧ True) ⟨[(0, .one (.e (.sl 0 0 x1.length))), (1, I i2), (5, I (w64 (i2 + 1)))], [.row .rcd x1 false]⟩ (by kernel_rfl) ⟨trivial, trivial⟩ ?_
  refine WO_nil rfl ?_
  refine thenS_n ?_
  refine W_block ?_
  refine W_loop ?_
  refine bindO_e h (fun v136 hv136 h => ?_)
  refine WL_cut (impl_isReplaced_L1_ok w X θ x1 i2 v136 n (w64 (i2 + 1)) hv136) ?_
  rcases v136 with _ | _
  · rintro _ _ ⟨rfl, rfl⟩
    refine blockS_r ?_
    refine thenS_r ?_
    cases h
    exact ⟨[0], True, by kernel_rfl, trivial⟩
  · rintro _ _ ⟨rfl, rfl⟩
    refine blockS_y ?_
    refine thenS_n ?_
    refine W_seq ?_
    refine W_region ?_
    refine WO_step 1 [0] [4] True ⟨[(4, B false)], [.row .rcd x1 false]⟩ (by kernel_rfl) trivial ?_
    refine WO_nil rfl ?_
    refine thenS_n ?_
    refine W_ret ?_
    cases h
    exact ⟨[0], True, by kernel_rfl, trivial⟩

/- impl.ShortLog -/
def impl_ShortLog_L1 (x2 : List Rcd) (x1 : List Nod) : Nat → (List Rcd) → (List Bool) → Int → Option ((List Rcd))
| 0, _, _, _ => none
| n + 1, x180, x181, i182 =>
 iteO (decide (i182 < ((x2.length : Nat) : Int)))
 (bindO (guardO (0 ≤ i182 ∧ i182 < ((x2.length : Nat) : Int)) <|
 iteO ((x2.getD i182.toNat drcd).fin)
 (guardO (0 ≤ (x2.getD i182.toNat drcd).who ∧ (x2.getD i182.toNat drcd).who < (4 : Int) ∧ (((x2.getD i182.toNat drcd).who).toNat * 1) < x181.length) <|
 bindO (iteO (x181.getD (((x2.getD i182.toNat drcd).who).toNat * 1) false)
 (guardO (0 = 0 ∧ x180.length = x180.length ∧ x180.length + (([(⟨(x2.getD i182.toNat drcd).who, (x2.getD i182.toNat drcd).node, (x2.getD i182.toNat drcd).value, (x2.getD i182.toNat drcd).fin⟩ : Rcd)].drop 0).take ([(⟨(x2.getD i182.toNat drcd).who, (x2.getD i182.toNat drcd).node, (x2.getD i182.toNat drcd).value, (x2.getD i182.toNat drcd).fin⟩ : Rcd)].length)).length ≤ 1099511627776) <|
 some (x180 ++ (([(⟨(x2.getD i182.toNat drcd).who, (x2.getD i182.toNat drcd).node, (x2.getD i182.toNat drcd).value, (x2.getD i182.toNat drcd).fin⟩ : Rcd)].drop 0).take ([(⟨(x2.getD i182.toNat drcd).who, (x2.getD i182.toNat drcd).node, (x2.getD i182.toNat drcd).value, (x2.getD i182.toNat drcd).fin⟩ : Rcd)].length))))
 (some x180)) fun x272 =>
 guardO (0 ≤ (x2.getD i182.toNat drcd).who ∧ (x2.getD i182.toNat drcd).who < (4 : Int) ∧ (((x2.getD i182.toNat drcd).who).toNat * 1) < x181.length) <|
 some (x272, (x181.set (((x2.getD i182.toNat drcd).who).toNat * 1) false)))
 (bindO (impl_isDone n x2 i182) fun b277 =>
 bindO (iteO b277
 (bindO (impl_isReplaced n x2 i182) fun b285 =>
 some (!b285))
 (some false)) fun b282 =>
 bindO (iteO b282
 (guardO (0 = 0 ∧ x180.length = x180.length ∧ x180.length + (([(⟨(x2.getD i182.toNat drcd).who, (x2.getD i182.toNat drcd).node, (x2.getD i182.toNat drcd).value, (x2.getD i182.toNat drcd).fin⟩ : Rcd)].drop 0).take ([(⟨(x2.getD i182.toNat drcd).who, (x2.getD i182.toNat drcd).node, (x2.getD i182.toNat drcd).value, (x2.getD i182.toNat drcd).fin⟩ : Rcd)].length)).length ≤ 1099511627776) <|
 guardO (0 ≤ (x2.getD i182.toNat drcd).who ∧ (x2.getD i182.toNat drcd).who < (4 : Int) ∧ (((x2.getD i182.toNat drcd).who).toNat * 1) < x181.length) <|
 some ((x180 ++ (([(⟨(x2.getD i182.toNat drcd).who, (x2.getD i182.toNat drcd).node, (x2.getD i182.toNat drcd).value, (x2.getD i182.toNat drcd).fin⟩ : Rcd)].drop 0).take ([(⟨(x2.getD i182.toNat drcd).who, (x2.getD i182.toNat drcd).node, (x2.getD i182.toNat drcd).value, (x2.getD i182.toNat drcd).fin⟩ : Rcd)].length))), (x181.set (((x2.getD i182.toNat drcd).who).toNat * 1) true)))
 (some (x180, x181))) fun v292 =>
 match v292 with
 | (x290, x291) => (some (x290, x291))
)) fun v259 =>
 match v259 with
 | (x257, x258) => (impl_ShortLog_L1 x2 x1 n x257 x258 (w64 (i182 + 1)))
)
 (some x180)

theorem impl_ShortLog_L1_ok (w : World) (X : Nat → Prop) (θ : List Loc) (x2 : List Rcd) (x1 : List Nod) (x222 : (List Rcd)) : ∀ (n : Nat) (x180 : List Rcd) (x181 : List Bool) (i182 : Int), impl_ShortLog_L1 x2 x1 n x180 x181 i182 = some x222 → WL EE ⟨w, X, θ, 51, 2⟩ (subC [1, 1, 1, 1, 0, 1, 4, 4] (bodyC Try.f23)) (fun (e : Exit) (s : St) => e = .exit 0 ∧ s = ⟨[(5, .one (.e (.sl 2 0 x222.length)))], [.row .nod x1 false, .row .rcd x2 false, .row .rcd x222 true]⟩) ⟨[(1, .one (.e (.sl 1 0 x2.length))), (5, .one (.e (.sl 2 0 x180.length))), (6, .one (.e (.rp 3 0 0))), (13, .one (.e (.sl 1 0 x2.length))), (14, I ((x2.length : Nat) : Int)), (15, I i182)], [.row .nod x1 false, .row .rcd x2 false, .row .rcd x180 true, .row .bool x181 true]⟩ := by
  intro n
  induction n with
  | zero => intro _ _ _ h; exact none_e h
  | succ n ih =>
    intro x180 x181 i182 h
    rw [impl_ShortLog_L1] at h
    refine WL_round ?_
    refine W_seq ?_
    refine W_region ?_
    refine WO_step 1 [0, 1, 2, 3] [1, 5, 6, 13, 14, 15, 16] (True ∧ True) ⟨[(1, .one (.e (.sl 1 0 x2.length))), (5, .one (.e (.sl 2 0 x180.length))), (6, .one (.e (.rp 3 0 0))), (13, .one (.e (.sl 1 0 x2.length))), (14, I ((x2.length : Nat) : Int)), (15, I i182), (16, B (decide (i182 < ((x2.length : Nat) : Int))))], [.row .nod x1 false, .row .rcd x2 false, .row .rcd x180 true, .row .bool x181 true]⟩ (by kernel_rfl) ⟨trivial, trivial⟩ ?_
    refine WO_nil rfl ?_
    refine thenS_n ?_
    refine W_seq ?_
    refine iteO_e h (fun hb225 h => W_true rfl hb225 ?_) (fun hb225 h => W_false rfl hb225 ?_)
    · refine W_sub [0, 1, 2, 3] [1, 5, 6, 13, 14, 15] (st' := ⟨[(1, .one (.e (.sl 1 0 x2.length))), (5, .one (.e (.sl 2 0 x180.length))), (6, .one (.e (.rp 3 0 0))), (13, .one (.e (.sl 1 0 x2.length))), (14, I ((x2.length : Nat) : Int)), (15, I i182)], [.row .nod x1 false, .row .rcd x2 false, .row .rcd x180 true, .row .bool x181 true]⟩) (by kernel_rfl) ?_
      refine W_skip ?_
      refine thenS_n ?_
      refine W_seq ?_
      refine bindO_e h (fun v259 hv259 h => ?_)
      refine W_cut (Q' := fun (e : Exit) (s : St) => (match v259 with | (x257, x258) => e = .normal ∧ s = ⟨[(1, .one (.e (.sl 1 0 x2.length))), (5, .one (.e (.sl 2 0 x257.length))), (6, .one (.e (.rp 3 0 0))), (13, .one (.e (.sl 1 0 x2.length))), (14, I ((x2.length : Nat) : Int)), (15, I i182)], [.row .nod x1 false, .row .rcd x2 false, .row .rcd x257 true, .row .bool x258 true]⟩ : Prop)) ?_ ?_
      · refine W_block ?_
        refine W_seq ?_
        refine W_region ?_
        refine guardO_e hv259 (fun hg260 hv259 => ?_)
        refine WO_step 6 [0, 1, 2, 3, 4] [1, 5, 6, 7, 8, 13, 14, 15] ((0 ≤ i182 ∧ i182 < ((x2.length : Nat) : Int)) ∧ (True ∧ (True ∧ (True ∧ True)))) ⟨[(1, .one (.e (.sl 1 0 x2.length))), (5, .one (.e (.sl 2 0 x180.length))), (6, .one (.e (.rp 3 0 0))), (7, I i182), (8, .one (.e (.p 4 0))), (13, .one (.e (.sl 1 0 x2.length))), (14, I ((x2.length : Nat) : Int)), (15, I i182)], [.row .nod x1 false, .row .rcd x2 false, .row .rcd x180 true, .row .bool x181 true, .cells [cI ((x2.getD i182.toNat drcd).who), cI ((x2.getD i182.toNat drcd).node), cI ((x2.getD i182.toNat drcd).value), cB ((x2.getD i182.toNat drcd).fin)]]⟩ (by kernel_rfl) ⟨hg260, trivial, trivial, trivial, trivial⟩ ?_
        refine WO_nil rfl ?_
        refine thenS_n ?_
        refine W_seq ?_
        refine W_seq ?_
        refine W_region ?_
        refine WO_step 2 [0, 1, 2, 3, 4] [1, 5, 6, 7, 8, 13, 14, 15, 21] (True ∧ True) ⟨[(1, .one (.e (.sl 1 0 x2.length))), (5, .one (.e (.sl 2 0 x180.length))), (6, .one (.e (.rp 3 0 0))), (7, I i182), (8, .one (.e (.p 4 0))), (13, .one (.e (.sl 1 0 x2.length))), (14, I ((x2.length : Nat) : Int)), (15, I i182), (21, B ((x2.getD i182.toNat drcd).fin))], [.row .nod x1 false, .row .rcd x2 false, .row .rcd x180 true, .row .bool x181 true, .cells [cI ((x2.getD i182.toNat drcd).who), cI ((x2.getD i182.toNat drcd).node), cI ((x2.getD i182.toNat drcd).value), cB ((x2.getD i182.toNat drcd).fin)]]⟩ (by kernel_rfl) ⟨trivial, trivial⟩ ?_
        refine WO_nil rfl ?_
        refine thenS_n ?_
        refine iteO_e hv259 (fun hb268 hv259 => W_true rfl hb268 ?_) (fun hb268 hv259 => W_false rfl hb268 ?_)
        · refine W_seq ?_
          refine W_seq ?_
          refine W_region ?_
          refine guardO_e hv259 (fun hg269 hv259 => ?_)
          refine WO_step 4 [0, 1, 2, 3, 4] [1, 5, 6, 8, 13, 14, 15, 25] (True ∧ ((0 ≤ (x2.getD i182.toNat drcd).who ∧ (x2.getD i182.toNat drcd).who < (4 : Int) ∧ (((x2.getD i182.toNat drcd).who).toNat * 1) < x181.length) ∧ (True ∧ True))) ⟨[(1, .one (.e (.sl 1 0 x2.length))), (5, .one (.e (.sl 2 0 x180.length))), (6, .one (.e (.rp 3 0 0))), (8, .one (.e (.p 4 0))), (13, .one (.e (.sl 1 0 x2.length))), (14, I ((x2.length : Nat) : Int)), (15, I i182), (25, B (x181.getD (((x2.getD i182.toNat drcd).who).toNat * 1) false))], [.row .nod x1 false, .row .rcd x2 false, .row .rcd x180 true, .row .bool x181 true, .cells [cI ((x2.getD i182.toNat drcd).who), cI ((x2.getD i182.toNat drcd).node), cI ((x2.getD i182.toNat drcd).value), cB ((x2.getD i182.toNat drcd).fin)]]⟩ (by kernel_rfl) ⟨trivial, hg269, trivial, trivial⟩ ?_
          refine WO_nil rfl ?_
          refine thenS_n ?_
          refine bindO_e hv259 (fun x272 hx272 hv259 => ?_)
          refine W_cut (Q' := fun (e : Exit) (s : St) => e = .normal ∧ s = ⟨[(1, .one (.e (.sl 1 0 x2.length))), (5, .one (.e (.sl 2 0 x272.length))), (6, .one (.e (.rp 3 0 0))), (8, .one (.e (.p 4 0))), (13, .one (.e (.sl 1 0 x2.length))), (14, I ((x2.length : Nat) : Int)), (15, I i182)], [.row .nod x1 false, .row .rcd x2 false, .row .rcd x272 true, .row .bool x181 true, .cells [cI ((x2.getD i182.toNat drcd).who), cI ((x2.getD i182.toNat drcd).node), cI ((x2.getD i182.toNat drcd).value), cB ((x2.getD i182.toNat drcd).fin)]]⟩) ?_ ?_
          · refine iteO_e hx272 (fun hb274 hx272 => W_true rfl hb274 ?_) (fun hb274 hx272 => W_false rfl hb274 ?_)
            · refine W_region ?_
              refine guardO_e hx272 (fun hg275 hx272 => ?_)
              refine WO_step 5 [0, 1, 6, 3, 4] [1, 5, 6, 8, 13, 14, 15] (True ∧ ((0 = 0 ∧ x180.length = x180.length ∧ x180.length + (([(⟨(x2.getD i182.toNat drcd).who, (x2.getD i182.toNat drcd).node, (x2.getD i182.toNat drcd).value, (x2.getD i182.toNat drcd).fin⟩ : Rcd)].drop 0).take ([(⟨(x2.getD i182.toNat drcd).who, (x2.getD i182.toNat drcd).node, (x2.getD i182.toNat drcd).value, (x2.getD i182.toNat drcd).fin⟩ : Rcd)].length)).length ≤ 1099511627776) ∧ True)) ⟨[(1, .one (.e (.sl 1 0 x2.length))), (5, .one (.e (.sl 2 0 ((x180 ++ (([(⟨(x2.getD i182.toNat drcd).who, (x2.getD i182.toNat drcd).node, (x2.getD i182.toNat drcd).value, (x2.getD i182.toNat drcd).fin⟩ : Rcd)].drop 0).take ([(⟨(x2.getD i182.toNat drcd).who, (x2.getD i182.toNat drcd).node, (x2.getD i182.toNat drcd).value, (x2.getD i182.toNat drcd).fin⟩ : Rcd)].length))).length)))), (6, .one (.e (.rp 3 0 0))), (8, .one (.e (.p 4 0))), (13, .one (.e (.sl 1 0 x2.length))), (14, I ((x2.length : Nat) : Int)), (15, I i182)], [.row .nod x1 false, .row .rcd x2 false, .row .rcd (x180 ++ (([(⟨(x2.getD i182.toNat drcd).who, (x2.getD i182.toNat drcd).node, (x2.getD i182.toNat drcd).value, (x2.getD i182.toNat drcd).fin⟩ : Rcd)].drop 0).take ([(⟨(x2.getD i182.toNat drcd).who, (x2.getD i182.toNat drcd).node, (x2.getD i182.toNat drcd).value, (x2.getD i182.toNat drcd).fin⟩ : Rcd)].length))) true, .row .bool x181 true, .cells [cI ((x2.getD i182.toNat drcd).who), cI ((x2.getD i182.toNat drcd).node), cI ((x2.getD i182.toNat drcd).value), cB ((x2.getD i182.toNat drcd).fin)]]⟩ (by kernel_rfl) ⟨trivial, hg275, trivial⟩ ?_
              refine WO_nil rfl ?_
              cases hx272
              exact And.intro rfl rfl
            · refine W_sub [0, 1, 2, 3, 4] [1, 5, 6, 8, 13, 14, 15] (st' := ⟨[(1, .one (.e (.sl 1 0 x2.length))), (5, .one (.e (.sl 2 0 x180.length))), (6, .one (.e (.rp 3 0 0))), (8, .one (.e (.p 4 0))), (13, .one (.e (.sl 1 0 x2.length))), (14, I ((x2.length : Nat) : Int)), (15, I i182)], [.row .nod x1 false, .row .rcd x2 false, .row .rcd x180 true, .row .bool x181 true, .cells [cI ((x2.getD i182.toNat drcd).who), cI ((x2.getD i182.toNat drcd).node), cI ((x2.getD i182.toNat drcd).value), cB ((x2.getD i182.toNat drcd).fin)]]⟩) (by kernel_rfl) ?_
              refine W_skip ?_
              cases hx272
              exact And.intro rfl rfl
          · rintro _ _ ⟨rfl, rfl⟩
            refine thenS_n ?_
            refine W_seq ?_
            refine W_region ?_
            refine guardO_e hv259 (fun hg276 hv259 => ?_)
            refine WO_step 4 [0, 1, 2, 3] [1, 5, 6, 13, 14, 15] (True ∧ ((0 ≤ (x2.getD i182.toNat drcd).who ∧ (x2.getD i182.toNat drcd).who < (4 : Int) ∧ (((x2.getD i182.toNat drcd).who).toNat * 1) < x181.length) ∧ (True ∧ True))) ⟨[(1, .one (.e (.sl 1 0 x2.length))), (5, .one (.e (.sl 2 0 x272.length))), (6, .one (.e (.rp 3 0 0))), (13, .one (.e (.sl 1 0 x2.length))), (14, I ((x2.length : Nat) : Int)), (15, I i182)], [.row .nod x1 false, .row .rcd x2 false, .row .rcd x272 true, .row .bool (x181.set (((x2.getD i182.toNat drcd).who).toNat * 1) false) true]⟩ (by kernel_rfl) ⟨trivial, hg276, trivial, trivial⟩ ?_
            refine WO_nil rfl ?_
            refine thenS_n ?_
            refine W_exit ?_
            refine thenS_e ?_
            refine blockS_y ?_
            cases hv259
            exact And.intro rfl rfl
        · refine W_sub [0, 1, 2, 3, 4] [1, 5, 6, 7, 8, 13, 14, 15] (st' := ⟨[(1, .one (.e (.sl 1 0 x2.length))), (5, .one (.e (.sl 2 0 x180.length))), (6, .one (.e (.rp 3 0 0))), (7, I i182), (8, .one (.e (.p 4 0))), (13, .one (.e (.sl 1 0 x2.length))), (14, I ((x2.length : Nat) : Int)), (15, I i182)], [.row .nod x1 false, .row .rcd x2 false, .row .rcd x180 true, .row .bool x181 true, .cells [cI ((x2.getD i182.toNat drcd).who), cI ((x2.getD i182.toNat drcd).node), cI ((x2.getD i182.toNat drcd).value), cB ((x2.getD i182.toNat drcd).fin)]]⟩) (by kernel_rfl) ?_
          refine W_skip ?_
          refine thenS_n ?_
          refine W_seq ?_
          refine W_region ?_
          refine WO_step 2 [0, 1, 2, 3, 4] [1, 5, 6, 7, 8, 13, 14, 15, 33, 34] True ⟨[(1, .one (.e (.sl 1 0 x2.length))), (5, .one (.e (.sl 2 0 x180.length))), (6, .one (.e (.rp 3 0 0))), (7, I i182), (8, .one (.e (.p 4 0))), (13, .one (.e (.sl 1 0 x2.length))), (14, I ((x2.length : Nat) : Int)), (15, I i182), (33, .one (.e (.sl 1 0 x2.length))), (34, I i182)], [.row .nod x1 false, .row .rcd x2 false, .row .rcd x180 true, .row .bool x181 true, .cells [cI ((x2.getD i182.toNat drcd).who), cI ((x2.getD i182.toNat drcd).node), cI ((x2.getD i182.toNat drcd).value), cB ((x2.getD i182.toNat drcd).fin)]]⟩ (by kernel_rfl) trivial ?_
          refine bindO_e hv259 (fun b277 hc278 hv259 => ?_)
          refine WO_call [.ro 1] Try.f40 rfl rfl rfl (by kernel_rfl) rfl rfl (by kernel_rfl) (impl_isDone_ok n x2 i182 b277 hc278) (And.intro (And.intro rfl rfl) (trivial)) rfl ?_
          refine WO_step 1 [0, 1, 2, 3, 4] [1, 5, 6, 7, 8, 13, 14, 15, 36] True ⟨[(1, .one (.e (.sl 1 0 x2.length))), (5, .one (.e (.sl 2 0 x180.length))), (6, .one (.e (.rp 3 0 0))), (7, I i182), (8, .one (.e (.p 4 0))), (13, .one (.e (.sl 1 0 x2.length))), (14, I ((x2.length : Nat) : Int)), (15, I i182), (36, B b277)], [.row .nod x1 false, .row .rcd x2 false, .row .rcd x180 true, .row .bool x181 true, .cells [cI ((x2.getD i182.toNat drcd).who), cI ((x2.getD i182.toNat drcd).node), cI ((x2.getD i182.toNat drcd).value), cB ((x2.getD i182.toNat drcd).fin)]]⟩ (by kernel_rfl) trivial ?_
          refine bindO_e hv259 (fun b282 hv283 hv259 => ?_)
          refine WO_thru ⟨[(1, .one (.e (.sl 1 0 x2.length))), (5, .one (.e (.sl 2 0 x180.length))), (6, .one (.e (.rp 3 0 0))), (8, .one (.e (.p 4 0))), (13, .one (.e (.sl 1 0 x2.length))), (14, I ((x2.length : Nat) : Int)), (15, I i182), (41, B b282)], [.row .nod x1 false, .row .rcd x2 false, .row .rcd x180 true, .row .bool x181 true, .cells [cI ((x2.getD i182.toNat drcd).who), cI ((x2.getD i182.toNat drcd).node), cI ((x2.getD i182.toNat drcd).value), cB ((x2.getD i182.toNat drcd).fin)]]⟩ ?_ ?_
          · refine iteO_e hv283 (fun hb284 hv283 => WO_known 36 true rfl hb284 ?_) (fun hb284 hv283 => WO_known 36 false rfl hb284 ?_)
            · refine WO_step 2 [0, 1, 2, 3, 4] [1, 5, 6, 8, 13, 14, 15, 36, 37, 38] True ⟨[(1, .one (.e (.sl 1 0 x2.length))), (5, .one (.e (.sl 2 0 x180.length))), (6, .one (.e (.rp 3 0 0))), (8, .one (.e (.p 4 0))), (13, .one (.e (.sl 1 0 x2.length))), (14, I ((x2.length : Nat) : Int)), (15, I i182), (36, B true), (37, .one (.e (.sl 1 0 x2.length))), (38, I i182)], [.row .nod x1 false, .row .rcd x2 false, .row .rcd x180 true, .row .bool x181 true, .cells [cI ((x2.getD i182.toNat drcd).who), cI ((x2.getD i182.toNat drcd).node), cI ((x2.getD i182.toNat drcd).value), cB ((x2.getD i182.toNat drcd).fin)]]⟩ (by kernel_rfl) trivial ?_
              refine bindO_e hv283 (fun b285 hc286 hv283 => ?_)
              refine WO_call [.ro 1] Try.f48 rfl rfl rfl (by kernel_rfl) rfl rfl (by kernel_rfl) (impl_isReplaced_ok n x2 i182 b285 hc286) (And.intro (And.intro rfl rfl) (trivial)) rfl ?_
              refine WO_step 2 [0, 1, 2, 3, 4] [1, 5, 6, 8, 13, 14, 15, 41] True ⟨[(1, .one (.e (.sl 1 0 x2.length))), (5, .one (.e (.sl 2 0 x180.length))), (6, .one (.e (.rp 3 0 0))), (8, .one (.e (.p 4 0))), (13, .one (.e (.sl 1 0 x2.length))), (14, I ((x2.length : Nat) : Int)), (15, I i182), (41, B (!b285))], [.row .nod x1 false, .row .rcd x2 false, .row .rcd x180 true, .row .bool x181 true, .cells [cI ((x2.getD i182.toNat drcd).who), cI ((x2.getD i182.toNat drcd).node), cI ((x2.getD i182.toNat drcd).value), cB ((x2.getD i182.toNat drcd).fin)]]⟩ (by kernel_rfl) trivial ?_
              cases hv283
              exact WO_nil rfl ⟨rfl, rfl⟩
            · refine WO_step 5 [0, 1, 2, 3, 4] [1, 5, 6, 8, 13, 14, 15, 41] True ⟨[(1, .one (.e (.sl 1 0 x2.length))), (5, .one (.e (.sl 2 0 x180.length))), (6, .one (.e (.rp 3 0 0))), (8, .one (.e (.p 4 0))), (13, .one (.e (.sl 1 0 x2.length))), (14, I ((x2.length : Nat) : Int)), (15, I i182), (41, B false)], [.row .nod x1 false, .row .rcd x2 false, .row .rcd x180 true, .row .bool x181 true, .cells [cI ((x2.getD i182.toNat drcd).who), cI ((x2.getD i182.toNat drcd).node), cI ((x2.getD i182.toNat drcd).value), cB ((x2.getD i182.toNat drcd).fin)]]⟩ (by kernel_rfl) trivial ?_
              cases hv283
              exact WO_nil rfl ⟨rfl, rfl⟩
          · refine thenS_n ?_
            refine bindO_e hv259 (fun v292 hv292 hv259 => ?_)
            refine W_cut (Q' := fun (e : Exit) (s : St) => (match v292 with | (x290, x291) => e = .normal ∧ s = ⟨[(1, .one (.e (.sl 1 0 x2.length))), (5, .one (.e (.sl 2 0 x290.length))), (6, .one (.e (.rp 3 0 0))), (13, .one (.e (.sl 1 0 x2.length))), (14, I ((x2.length : Nat) : Int)), (15, I i182)], [.row .nod x1 false, .row .rcd x2 false, .row .rcd x290 true, .row .bool x291 true]⟩ : Prop)) ?_ ?_
            · refine iteO_e hv292 (fun hb293 hv292 => W_true rfl hb293 ?_) (fun hb293 hv292 => W_false rfl hb293 ?_)
              · refine W_seq ?_
                refine W_region ?_
                refine guardO_e hv292 (fun hg294 hv292 => ?_)
                refine WO_step 5 [0, 1, 6, 3, 4] [1, 5, 6, 8, 13, 14, 15] (True ∧ ((0 = 0 ∧ x180.length = x180.length ∧ x180.length + (([(⟨(x2.getD i182.toNat drcd).who, (x2.getD i182.toNat drcd).node, (x2.getD i182.toNat drcd).value, (x2.getD i182.toNat drcd).fin⟩ : Rcd)].drop 0).take ([(⟨(x2.getD i182.toNat drcd).who, (x2.getD i182.toNat drcd).node, (x2.getD i182.toNat drcd).value, (x2.getD i182.toNat drcd).fin⟩ : Rcd)].length)).length ≤ 1099511627776) ∧ True)) ⟨[(1, .one (.e (.sl 1 0 x2.length))), (5, .one (.e (.sl 2 0 ((x180 ++ (([(⟨(x2.getD i182.toNat drcd).who, (x2.getD i182.toNat drcd).node, (x2.getD i182.toNat drcd).value, (x2.getD i182.toNat drcd).fin⟩ : Rcd)].drop 0).take ([(⟨(x2.getD i182.toNat drcd).who, (x2.getD i182.toNat drcd).node, (x2.getD i182.toNat drcd).value, (x2.getD i182.toNat drcd).fin⟩ : Rcd)].length))).length)))), (6, .one (.e (.rp 3 0 0))), (8, .one (.e (.p 4 0))), (13, .one (.e (.sl 1 0 x2.length))), (14, I ((x2.length : Nat) : Int)), (15, I i182)], [.row .nod x1 false, .row .rcd x2 false, .row .rcd (x180 ++ (([(⟨(x2.getD i182.toNat drcd).who, (x2.getD i182.toNat drcd).node, (x2.getD i182.toNat drcd).value, (x2.getD i182.toNat drcd).fin⟩ : Rcd)].drop 0).take ([(⟨(x2.getD i182.toNat drcd).who, (x2.getD i182.toNat drcd).node, (x2.getD i182.toNat drcd).value, (x2.getD i182.toNat drcd).fin⟩ : Rcd)].length))) true, .row .bool x181 true, .cells [cI ((x2.getD i182.toNat drcd).who), cI ((x2.getD i182.toNat drcd).node), cI ((x2.getD i182.toNat drcd).value), cB ((x2.getD i182.toNat drcd).fin)]]⟩ (by kernel_rfl) ⟨trivial, hg294, trivial⟩ ?_
                refine WO_nil rfl ?_
                refine thenS_n ?_
                refine W_region ?_
                refine guardO_e hv292 (fun hg295 hv292 => ?_)
                refine WO_step 4 [0, 1, 2, 3] [1, 5, 6, 13, 14, 15] (True ∧ ((0 ≤ (x2.getD i182.toNat drcd).who ∧ (x2.getD i182.toNat drcd).who < (4 : Int) ∧ (((x2.getD i182.toNat drcd).who).toNat * 1) < x181.length) ∧ (True ∧ True))) ⟨[(1, .one (.e (.sl 1 0 x2.length))), (5, .one (.e (.sl 2 0 ((x180 ++ (([(⟨(x2.getD i182.toNat drcd).who, (x2.getD i182.toNat drcd).node, (x2.getD i182.toNat drcd).value, (x2.getD i182.toNat drcd).fin⟩ : Rcd)].drop 0).take ([(⟨(x2.getD i182.toNat drcd).who, (x2.getD i182.toNat drcd).node, (x2.getD i182.toNat drcd).value, (x2.getD i182.toNat drcd).fin⟩ : Rcd)].length))).length)))), (6, .one (.e (.rp 3 0 0))), (13, .one (.e (.sl 1 0 x2.length))), (14, I ((x2.length : Nat) : Int)), (15, I i182)], [.row .nod x1 false, .row .rcd x2 false, .row .rcd (x180 ++ (([(⟨(x2.getD i182.toNat drcd).who, (x2.getD i182.toNat drcd).node, (x2.getD i182.toNat drcd).value, (x2.getD i182.toNat drcd).fin⟩ : Rcd)].drop 0).take ([(⟨(x2.getD i182.toNat drcd).who, (x2.getD i182.toNat drcd).node, (x2.getD i182.toNat drcd).value, (x2.getD i182.toNat drcd).fin⟩ : Rcd)].length))) true, .row .bool (x181.set (((x2.getD i182.toNat drcd).who).toNat * 1) true) true]⟩ (by kernel_rfl) ⟨trivial, hg295, trivial, trivial⟩ ?_
                refine WO_nil rfl ?_
                cases hv292
                exact And.intro rfl rfl
              · refine W_sub [0, 1, 2, 3] [1, 5, 6, 13, 14, 15] (st' := ⟨[(1, .one (.e (.sl 1 0 x2.length))), (5, .one (.e (.sl 2 0 x180.length))), (6, .one (.e (.rp 3 0 0))), (13, .one (.e (.sl 1 0 x2.length))), (14, I ((x2.length : Nat) : Int)), (15, I i182)], [.row .nod x1 false, .row .rcd x2 false, .row .rcd x180 true, .row .bool x181 true]⟩) (by kernel_rfl) ?_
                refine W_skip ?_
                cases hv292
                exact And.intro rfl rfl
            · obtain ⟨x290, x291⟩ := v292
              rintro _ _ ⟨rfl, rfl⟩
              refine blockS_n ?_
              cases hv259
              exact And.intro rfl rfl
      · obtain ⟨x257, x258⟩ := v259
        rintro _ _ ⟨rfl, rfl⟩
        refine thenS_n ?_
        refine W_region ?_
        refine WO_step 2 [0, 1, 2, 3] [1, 5, 6, 13, 14, 15] (True ∧ True) ⟨[(1, .one (.e (.sl 1 0 x2.length))), (5, .one (.e (.sl 2 0 x257.length))), (6, .one (.e (.rp 3 0 0))), (13, .one (.e (.sl 1 0 x2.length))), (14, I ((x2.length : Nat) : Int)), (15, I (w64 (i182 + 1)))], [.row .nod x1 false, .row .rcd x2 false, .row .rcd x257 true, .row .bool x258 true]⟩ (by kernel_rfl) ⟨trivial, trivial⟩ ?_
        refine WO_nil rfl ?_
        refine thenS_n ?_
        exact ih _ _ _ h
    · refine W_sub [0, 1, 2] [5] (st' := ⟨[(5, .one (.e (.sl 2 0 x180.length)))], [.row .nod x1 false, .row .rcd x2 false, .row .rcd x180 true]⟩) (by kernel_rfl) ?_
      refine W_exit ?_
      refine thenS_e ?_
      refine thenS_e ?_
      cases h
      exact And.intro rfl rfl

def impl_ShortLog (n : Nat) (x1 : List Nod) (x2 : List Rcd) : Option ((List Rcd)) :=
 bindO (impl_ValidLog n x1 x2) fun b132 =>
 iteO (!b132)
 (some ([] : List Rcd))
 (bindO (impl_ShortLog_L1 x2 x1 n ([] : List Rcd) ([false, false, false, false] : List Bool) 0) fun x222 =>
 some x222)

theorem impl_ShortLog_ok (n : Nat) (x1 : List Nod) (x2 : List Rcd) (x131 : List Rcd) (h : impl_ShortLog n x1 x2 = some x131) : FOk EE 23 [.one (.e (.sl 0 0 x1.length)), .one (.e (.sl 1 0 x2.length))] [.row .nod x1 false, .row .rcd x2 false] (.one (.e (.sl 2 0 x131.length))) [.row .nod x1 false, .row .rcd x2 false, .row .rcd x131 true] := by
  unfold impl_ShortLog at h
  refine FOk_of_W 51 2 Try.func23 rfl rfl (Nat.le_of_ble_eq_true rfl) rfl (fun w X θ => ?_)
  refine W_seq ?_
  refine W_region ?_
  refine WO_step 1 [0, 1] [0, 1] True ⟨[(0, .one (.e (.sl 0 0 x1.length))), (1, .one (.e (.sl 1 0 x2.length)))], [.row .nod x1 false, .row .rcd x2 false]⟩ (by kernel_rfl) trivial ?_
  refine WO_nil rfl ?_
  refine thenS_n ?_
  refine W_seq ?_
  refine W_seq ?_
  refine W_region ?_
  refine WO_step 2 [0, 1] [1, 9, 10] True ⟨[(1, .one (.e (.sl 1 0 x2.length))), (9, .one (.e (.sl 0 0 x1.length))), (10, .one (.e (.sl 1 0 x2.length)))], [.row .nod x1 false, .row .rcd x2 false]⟩ (by kernel_rfl) trivial ?_
  refine bindO_e h (fun b132 hc133 h => ?_)
  refine WO_call [.ro 0, .ro 1] Try.f16 rfl rfl rfl (by kernel_rfl) rfl rfl (by kernel_rfl) (impl_ValidLog_ok n x1 x2 b132 hc133) (And.intro (And.intro rfl rfl) (And.intro (And.intro rfl rfl) (trivial))) rfl ?_
  refine WO_step 1 [0, 1] [1, 12] True ⟨[(1, .one (.e (.sl 1 0 x2.length))), (12, B (!b132))], [.row .nod x1 false, .row .rcd x2 false]⟩ (by kernel_rfl) trivial ?_
  refine WO_nil rfl ?_
  refine thenS_n ?_
  refine iteO_e h (fun hb135 h => W_true rfl hb135 ?_) (fun hb135 h => W_false rfl hb135 ?_)
  · refine W_seq ?_
    refine W_region ?_
    refine WO_step 1 [0, 1] [4] True ⟨[(4, .one (.e (.nsl)))], [.row .nod x1 false, .row .rcd x2 false]⟩ (by kernel_rfl) trivial ?_
    refine WO_nilrow 4 .rcd rfl ?_
    refine WO_sub [0, 1, 2] [4] (st' := ⟨[(4, .one (.e (.sl 2 0 (([] : List Rcd).length))))], [.row .nod x1 false, .row .rcd x2 false, .row .rcd ([] : List Rcd) true]⟩) (by kernel_rfl) ?_
    refine WO_nil rfl ?_
    refine thenS_n ?_
    refine W_ret ?_
    refine thenS_r ?_
    cases h
    exact ⟨[0, 1, 2], True, by kernel_rfl, trivial⟩
  · refine W_sub [0, 1] [1] (st' := ⟨[(1, .one (.e (.sl 1 0 x2.length)))], [.row .nod x1 false, .row .rcd x2 false]⟩) (by kernel_rfl) ?_
    refine W_skip ?_
    refine thenS_n ?_
    refine W_seq ?_
    refine W_region ?_
    refine WO_step 1 [0, 1] [1, 5] True ⟨[(1, .one (.e (.sl 1 0 x2.length))), (5, .one (.e (.nsl)))], [.row .nod x1 false, .row .rcd x2 false]⟩ (by kernel_rfl) trivial ?_
    refine WO_nilrow 5 .rcd rfl ?_
    refine WO_sub [0, 1, 2] [1, 5] (st' := ⟨[(1, .one (.e (.sl 1 0 x2.length))), (5, .one (.e (.sl 2 0 (([] : List Rcd).length))))], [.row .nod x1 false, .row .rcd x2 false, .row .rcd ([] : List Rcd) true]⟩) (by kernel_rfl) ?_
    refine WO_nil rfl ?_
    refine thenS_n ?_
    refine W_seq ?_
    refine W_region ?_
    refine WO_step 1 [0, 1, 2, 3] [1, 5, 6] ((0 < ([false, false, false, false] : List Bool).length ∧ ([false, false, false, false] : List Bool).length ≤ 1099511627776) ∧ True) ⟨[(1, .one (.e (.sl 1 0 x2.length))), (5, .one (.e (.sl 2 0 (([] : List Rcd).length)))), (6, .one (.e (.rp 3 0 0)))], [.row .nod x1 false, .row .rcd x2 false, .row .rcd ([] : List Rcd) true, .row .bool ([false, false, false, false] : List Bool) true]⟩ (by kernel_rfl) ⟨(by decide), trivial⟩ ?_
    refine WO_nil rfl ?_
    refine thenS_n ?_
    refine W_seq ?_
    refine W_seq ?_
    refine W_region ?_
    refine WO_step 3 [0, 1, 2, 3] [1, 5, 6, 13, 14, 15] (True ∧ True) ⟨[(1, .one (.e (.sl 1 0 x2.length))), (5, .one (.e (.sl 2 0 (([] : List Rcd).length)))), (6, .one (.e (.rp 3 0 0))), (13, .one (.e (.sl 1 0 x2.length))), (14, I ((x2.length : Nat) : Int)), (15, I 0)], [.row .nod x1 false, .row .rcd x2 false, .row .rcd ([] : List Rcd) true, .row .bool ([false, false, false, false] : List Bool) true]⟩ (by kernel_rfl) ⟨trivial, trivial⟩ ?_
    refine WO_nil rfl ?_
    refine thenS_n ?_
    refine W_block ?_
    refine W_loop ?_
    refine bindO_e h (fun x222 hx222 h => ?_)
    refine WL_cut (impl_ShortLog_L1_ok w X θ x2 x1 x222 n ([] : List Rcd) ([false, false, false, false] : List Bool) 0 hx222) ?_
    rintro _ _ ⟨rfl, rfl⟩
    refine blockS_y ?_
    refine thenS_n ?_
    refine W_seq ?_
    refine W_region ?_
    refine WO_step 2 [0, 1, 2] [4] True ⟨[(4, .one (.e (.sl 2 0 x222.length)))], [.row .nod x1 false, .row .rcd x2 false, .row .rcd x222 true]⟩ (by kernel_rfl) trivial ?_
    refine WO_nil rfl ?_
    refine thenS_n ?_
    refine W_ret ?_
    cases h
    exact ⟨[0, 1, 2], True, by kernel_rfl, trivial⟩

end Go.Proofs.Ytdkmgkeaebcobaa

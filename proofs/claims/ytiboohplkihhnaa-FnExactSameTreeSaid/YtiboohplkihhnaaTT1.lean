import Derived.Test.YtiboohplkihhnaaTLt
import Derived.Test.YtiboohplkihhnaaTLxb
import Derived.Shelf.Strings.Builder1
import Derived.Shelf.Strings.Search1
import Derived.Test.YtiboohplkihhnaaProg
namespace Go.Proofs.Ytiboohplkihhnaa
open Go Go.Shelf Go.Proofs
set_option linter.unusedVariables false
noncomputable def EE : Env := ⟨Try.prog, fun _ => none, fun t => match t with | 3 => some .int | 5 => some .u8 | 9 => some .str | 36 => some .nod | 38 => some .nod | 42 => some .edt | _ => none⟩
/- laws.szNode -/
def laws_szNode (x1 : Nod) (i2 : Int) : Option (Int) :=
 iteO (decide ((w64 (i2 - ((x1.name.length : Nat) : Int))) < 0))
 (some (-1))
 (some (w64 (i2 - ((x1.name.length : Nat) : Int))))

theorem laws_szNode_ok (x1 : Nod) (i2 : Int) (i5 : Int) (h : laws_szNode x1 i2 = some i5) : FOk EE 16 [AGG [cI x1.parent, cS x1.name, cI x1.value], I i2] [] (I i5) [] := by
  unfold laws_szNode at h
  refine FOk_of_W 13 0 Try.func16 rfl rfl (Nat.le_of_ble_eq_true rfl) rfl (fun w X θ => ?_)
  refine W_seq ?_
  refine W_region ?_
  refine WO_step 2 [0] [1, 2] (True ∧ True) ⟨[(1, I i2), (2, .one (.e (.p 0 0)))], [.cells [cI x1.parent, cS x1.name, cI x1.value]]⟩ (by kernel_rfl) ⟨trivial, trivial⟩ ?_
  refine WO_nil rfl ?_
  refine thenS_n ?_
  refine W_seq ?_
  refine W_region ?_
  refine WO_step 6 [] [1] (True ∧ (True ∧ (True ∧ True))) ⟨[(1, I (w64 (i2 - ((x1.name.length : Nat) : Int))))], []⟩ (by kernel_rfl) ⟨trivial, trivial, trivial, trivial⟩ ?_
  refine WO_nil rfl ?_
  refine thenS_n ?_
  refine W_seq ?_
  refine W_seq ?_
  refine W_region ?_
  refine WO_step 2 [] [1, 11] (True ∧ True) ⟨[(1, I (w64 (i2 - ((x1.name.length : Nat) : Int)))), (11, B (decide ((w64 (i2 - ((x1.name.length : Nat) : Int))) < 0)))], []⟩ (by kernel_rfl) ⟨trivial, trivial⟩ ?_
  refine WO_nil rfl ?_
  refine thenS_n ?_
  refine iteO_e h (fun hb7 h => W_true rfl hb7 ?_) (fun hb7 h => W_false rfl hb7 ?_)
  · refine W_seq ?_
    refine W_region ?_
    refine WO_step 1 [] [4] True ⟨[(4, I (-1))], []⟩ (by kernel_rfl) trivial ?_
    refine WO_nil rfl ?_
    refine thenS_n ?_
    refine W_ret ?_
    refine thenS_r ?_
    cases h
    exact ⟨[], True, by kernel_rfl, trivial⟩
  · refine W_sub [] [1] (st' := ⟨[(1, I (w64 (i2 - ((x1.name.length : Nat) : Int))))], []⟩) (by kernel_rfl) ?_
    refine W_skip ?_
    refine thenS_n ?_
    refine W_seq ?_
    refine W_region ?_
    refine WO_step 2 [] [4] True ⟨[(4, I (w64 (i2 - ((x1.name.length : Nat) : Int))))], []⟩ (by kernel_rfl) trivial ?_
    refine WO_nil rfl ?_
    refine thenS_n ?_
    refine W_ret ?_
    cases h
    exact ⟨[], True, by kernel_rfl, trivial⟩

/- laws.szNodeS -/
def laws_szNodeS_L1 (x1 : List Nod) : Nat → Int → Int → Option ((Unit) ⊕ (Int))
| 0, _, _ => none
| n + 1, i74, i75 =>
 iteO (decide (i75 < ((x1.length : Nat) : Int)))
 (guardO (0 ≤ i75 ∧ i75 < ((x1.length : Nat) : Int)) <|
 bindO (laws_szNode (x1.getD i75.toNat dnod) i74) fun i100 =>
 iteO (decide (i100 < 0))
 (some (.inl ()))
 (laws_szNodeS_L1 x1 n i100 (w64 (i75 + 1))))
 (some (.inr i74))

theorem laws_szNodeS_L1_ok (w : World) (X : Nat → Prop) (θ : List Loc) (x1 : List Nod) (v : (Unit) ⊕ (Int)) : ∀ (n : Nat) (i74 : Int) (i75 : Int), laws_szNodeS_L1 x1 n i74 i75 = some v → WL EE ⟨w, X, θ, 27, 1⟩ (subC [1, 1, 1, 0, 1, 4, 4] (bodyC Try.f7)) (fun (e : Exit) (s : St) => (match v with | (.inl _) => e = .ret ∧ s = ⟨[(4, I (-1))], [.row .nod x1 false]⟩ | (.inr i90) => e = .exit 0 ∧ s = ⟨[(1, I i90)], [.row .nod x1 false]⟩ : Prop)) ⟨[(0, .one (.e (.sl 0 0 x1.length))), (1, I i74), (5, I i75)], [.row .nod x1 false]⟩ := by
  intro n
  induction n with
  | zero => intro _ _ h; exact none_e h
  | succ n ih =>
    intro i74 i75 h
    rw [laws_szNodeS_L1] at h
    refine WL_round ?_
    refine W_seq ?_
    refine W_seq ?_
    refine W_region ?_
    refine WO_step 4 [0] [0, 1, 5, 15] (True ∧ (True ∧ True)) ⟨[(0, .one (.e (.sl 0 0 x1.length))), (1, I i74), (5, I i75), (15, B (decide (i75 < ((x1.length : Nat) : Int))))], [.row .nod x1 false]⟩ (by kernel_rfl) ⟨trivial, trivial, trivial⟩ ?_
    refine WO_nil rfl ?_
    refine thenS_n ?_
    refine iteO_e h (fun hb93 h => W_true rfl hb93 ?_) (fun hb93 h => W_false rfl hb93 ?_)
    · refine W_sub [0] [0, 1, 5] (st' := ⟨[(0, .one (.e (.sl 0 0 x1.length))), (1, I i74), (5, I i75)], [.row .nod x1 false]⟩) (by kernel_rfl) ?_
      refine W_skip ?_
      refine thenS_n ?_
      refine W_seq ?_
      refine W_block ?_
      refine W_seq ?_
      refine W_region ?_
      refine guardO_e h (fun hg99 h => ?_)
      refine WO_step 5 [0] [0, 5, 21, 22] ((0 ≤ i75 ∧ i75 < ((x1.length : Nat) : Int)) ∧ (True ∧ True)) ⟨[(0, .one (.e (.sl 0 0 x1.length))), (5, I i75), (21, AGG [cI ((x1.getD i75.toNat dnod).parent), cS ((x1.getD i75.toNat dnod).name), cI ((x1.getD i75.toNat dnod).value)]), (22, I i74)], [.row .nod x1 false]⟩ (by kernel_rfl) ⟨hg99, trivial, trivial⟩ ?_
      refine bindO_e h (fun i100 hc101 h => ?_)
      refine WO_call [] Try.f16 rfl rfl rfl (by kernel_rfl) rfl rfl (by kernel_rfl) (laws_szNode_ok (x1.getD i75.toNat dnod) i74 i100 hc101) (trivial) rfl ?_
      refine WO_step 1 [0] [0, 1, 5] True ⟨[(0, .one (.e (.sl 0 0 x1.length))), (1, I i100), (5, I i75)], [.row .nod x1 false]⟩ (by kernel_rfl) trivial ?_
      refine WO_nil rfl ?_
      refine thenS_n ?_
      refine W_seq ?_
      refine W_region ?_
      refine WO_step 2 [0] [0, 1, 5, 25] (True ∧ True) ⟨[(0, .one (.e (.sl 0 0 x1.length))), (1, I i100), (5, I i75), (25, B (decide (i100 < 0)))], [.row .nod x1 false]⟩ (by kernel_rfl) ⟨trivial, trivial⟩ ?_
      refine WO_nil rfl ?_
      refine thenS_n ?_
      refine iteO_e h (fun hb103 h => W_true rfl hb103 ?_) (fun hb103 h => W_false rfl hb103 ?_)
      · refine W_seq ?_
        refine W_region ?_
        refine WO_step 1 [0] [4] True ⟨[(4, I (-1))], [.row .nod x1 false]⟩ (by kernel_rfl) trivial ?_
        refine WO_nil rfl ?_
        refine thenS_n ?_
        refine W_ret ?_
        refine blockS_r ?_
        refine thenS_r ?_
        refine thenS_r ?_
        cases h
        exact And.intro rfl rfl
      · refine W_sub [0] [0, 1, 5] (st' := ⟨[(0, .one (.e (.sl 0 0 x1.length))), (1, I i100), (5, I i75)], [.row .nod x1 false]⟩) (by kernel_rfl) ?_
        refine W_skip ?_
        refine blockS_n ?_
        refine thenS_n ?_
        refine W_region ?_
        refine WO_step 3 [0] [0, 1, 5] (True ∧ True) ⟨[(0, .one (.e (.sl 0 0 x1.length))), (1, I i100), (5, I (w64 (i75 + 1)))], [.row .nod x1 false]⟩ (by kernel_rfl) ⟨trivial, trivial⟩ ?_
        refine WO_nil rfl ?_
        refine thenS_n ?_
        exact ih _ _ h
    · refine W_sub [0] [1] (st' := ⟨[(1, I i74)], [.row .nod x1 false]⟩) (by kernel_rfl) ?_
      refine W_exit ?_
      refine thenS_e ?_
      refine thenS_e ?_
      cases h
      exact And.intro rfl rfl

def laws_szNodeS (n : Nat) (x1 : List Nod) (i2 : Int) : Option (Int) :=
 iteO (decide ((w64 (i2 - ((x1.length : Nat) : Int))) < 0))
 (some (-1))
 (bindO (laws_szNodeS_L1 x1 n (w64 (i2 - ((x1.length : Nat) : Int))) 0) fun v104 =>
 match v104 with
 | (.inl _) => (some (-1))
 | (.inr i90) => (some i90)
)

theorem laws_szNodeS_ok (n : Nat) (x1 : List Nod) (i2 : Int) (i53 : Int) (h : laws_szNodeS n x1 i2 = some i53) : FOk EE 7 [.one (.e (.sl 0 0 x1.length)), I i2] [.row .nod x1 false] (I i53) [.row .nod x1 false] := by
  unfold laws_szNodeS at h
  refine FOk_of_W 27 1 Try.func7 rfl rfl (Nat.le_of_ble_eq_true rfl) rfl (fun w X θ => ?_)
  refine W_seq ?_
  refine W_region ?_
  refine WO_step 1 [0] [0, 1] True ⟨[(0, .one (.e (.sl 0 0 x1.length))), (1, I i2)], [.row .nod x1 false]⟩ (by kernel_rfl) trivial ?_
  refine WO_nil rfl ?_
  refine thenS_n ?_
  refine W_seq ?_
  refine W_region ?_
  refine WO_step 5 [0] [0, 1] (True ∧ (True ∧ True)) ⟨[(0, .one (.e (.sl 0 0 x1.length))), (1, I (w64 (i2 - ((x1.length : Nat) : Int))))], [.row .nod x1 false]⟩ (by kernel_rfl) ⟨trivial, trivial, trivial⟩ ?_
  refine WO_nil rfl ?_
  refine thenS_n ?_
  refine W_seq ?_
  refine W_seq ?_
  refine W_region ?_
  refine WO_step 2 [0] [0, 1, 11] (True ∧ True) ⟨[(0, .one (.e (.sl 0 0 x1.length))), (1, I (w64 (i2 - ((x1.length : Nat) : Int)))), (11, B (decide ((w64 (i2 - ((x1.length : Nat) : Int))) < 0)))], [.row .nod x1 false]⟩ (by kernel_rfl) ⟨trivial, trivial⟩ ?_
  refine WO_nil rfl ?_
  refine thenS_n ?_
  refine iteO_e h (fun hb55 h => W_true rfl hb55 ?_) (fun hb55 h => W_false rfl hb55 ?_)
  · refine W_seq ?_
    refine W_region ?_
    refine WO_step 1 [0] [4] True ⟨[(4, I (-1))], [.row .nod x1 false]⟩ (by kernel_rfl) trivial ?_
    refine WO_nil rfl ?_
    refine thenS_n ?_
    refine W_ret ?_
    refine thenS_r ?_
    cases h
    exact ⟨[0], True, by kernel_rfl, trivial⟩
  · refine W_sub [0] [0, 1] (st' := ⟨[(0, .one (.e (.sl 0 0 x1.length))), (1, I (w64 (i2 - ((x1.length : Nat) : Int))))], [.row .nod x1 false]⟩) (by kernel_rfl) ?_
    refine W_skip ?_
    refine thenS_n ?_
    refine W_seq ?_
    refine W_seq ?_
    refine W_region ?_
    refine WO_step 1 [0] [0, 1, 5] True ⟨[(0, .one (.e (.sl 0 0 x1.length))), (1, I (w64 (i2 - ((x1.length : Nat) : Int)))), (5, I 0)], [.row .nod x1 false]⟩ (by kernel_rfl) trivial ?_
    refine WO_nil rfl ?_
    refine thenS_n ?_
    refine W_block ?_
    refine W_loop ?_
    refine bindO_e h (fun v104 hv104 h => ?_)
    refine WL_cut (laws_szNodeS_L1_ok w X θ x1 v104 n (w64 (i2 - ((x1.length : Nat) : Int))) 0 hv104) ?_
    rcases v104 with _ | i90
    · rintro _ _ ⟨rfl, rfl⟩
      refine blockS_r ?_
      refine thenS_r ?_
      cases h
      exact ⟨[0], True, by kernel_rfl, trivial⟩
    · rintro _ _ ⟨rfl, rfl⟩
      refine blockS_y ?_
      refine thenS_n ?_
      refine W_seq ?_
      refine W_region ?_
      refine WO_step 2 [0] [4] True ⟨[(4, I i90)], [.row .nod x1 false]⟩ (by kernel_rfl) trivial ?_
      refine WO_nil rfl ?_
      refine thenS_n ?_
      refine W_ret ?_
      cases h
      exact ⟨[0], True, by kernel_rfl, trivial⟩

/- laws.toNode -/
def laws_toNode (x1 : Nod) : Option (Int × Str × Int) :=
 some (x1.parent, x1.name, x1.value)

theorem laws_toNode_ok (x1 : Nod) (i2 : Int) (s3 : Str) (i4 : Int) (h : laws_toNode x1 = some (i2, s3, i4)) : FOk EE 19 [AGG [cI x1.parent, cS x1.name, cI x1.value]] [] (AGG [cI i2, cS s3, cI i4]) [] := by
  unfold laws_toNode at h
  refine FOk_of_W 14 0 Try.func19 rfl rfl (Nat.le_of_ble_eq_true rfl) rfl (fun w X θ => ?_)
  refine W_seq ?_
  refine W_region ?_
  refine WO_step 2 [0, 1] [1, 2] (True ∧ (True ∧ True)) ⟨[(1, .one (.e (.p 0 0))), (2, .one (.e (.p 1 0)))], [.cells [cI x1.parent, cS x1.name, cI x1.value], .cells [cI 0, cS [], cI 0]]⟩ (by kernel_rfl) ⟨trivial, trivial, trivial⟩ ?_
  refine WO_nil rfl ?_
  refine thenS_n ?_
  refine W_seq ?_
  refine W_region ?_
  refine WO_step 1 [0, 1, 2] [1, 2, 3] (True ∧ True) ⟨[(1, .one (.e (.p 0 0))), (2, .one (.e (.p 1 0))), (3, .one (.e (.p 2 0)))], [.cells [cI x1.parent, cS x1.name, cI x1.value], .cells [cI 0, cS [], cI 0], .cells [cI 0, cS [], cI 0]]⟩ (by kernel_rfl) ⟨trivial, trivial⟩ ?_
  refine WO_nil rfl ?_
  refine thenS_n ?_
  refine W_seq ?_
  refine W_region ?_
  refine WO_step 4 [0, 1, 2] [1, 2, 3] (True ∧ (True ∧ True)) ⟨[(1, .one (.e (.p 0 0))), (2, .one (.e (.p 1 0))), (3, .one (.e (.p 2 0)))], [.cells [cI x1.parent, cS x1.name, cI x1.value], .cells [cI 0, cS [], cI 0], .cells [cI x1.parent, cS [], cI 0]]⟩ (by kernel_rfl) ⟨trivial, trivial, trivial⟩ ?_
  refine WO_nil rfl ?_
  refine thenS_n ?_
  refine W_seq ?_
  refine W_region ?_
  refine WO_step 4 [0, 1, 2] [1, 2, 3] (True ∧ (True ∧ True)) ⟨[(1, .one (.e (.p 0 0))), (2, .one (.e (.p 1 0))), (3, .one (.e (.p 2 0)))], [.cells [cI x1.parent, cS x1.name, cI x1.value], .cells [cI 0, cS [], cI 0], .cells [cI x1.parent, cS x1.name, cI 0]]⟩ (by kernel_rfl) ⟨trivial, trivial, trivial⟩ ?_
  refine WO_nil rfl ?_
  refine thenS_n ?_
  refine W_seq ?_
  refine W_region ?_
  refine WO_step 4 [1, 2] [2, 3] (True ∧ (True ∧ True)) ⟨[(2, .one (.e (.p 0 0))), (3, .one (.e (.p 1 0)))], [.cells [cI 0, cS [], cI 0], .cells [cI x1.parent, cS x1.name, cI x1.value]]⟩ (by kernel_rfl) ⟨trivial, trivial, trivial⟩ ?_
  refine WO_nil rfl ?_
  refine thenS_n ?_
  refine W_seq ?_
  refine W_region ?_
  refine WO_step 2 [0] [2] (True ∧ (True ∧ True)) ⟨[(2, .one (.e (.p 0 0)))], [.cells [cI x1.parent, cS x1.name, cI x1.value]]⟩ (by kernel_rfl) ⟨trivial, trivial, trivial⟩ ?_
  refine WO_nil rfl ?_
  refine thenS_n ?_
  refine W_ret ?_
  cases h
  exact ⟨[], True, by kernel_rfl, trivial⟩

/- laws.toNodeS -/
def laws_toNodeS_L1 (x1 : List Nod) : Nat → (List Nod) → Int → Option ((List Nod))
| 0, _, _ => none
| n + 1, x87, i88 =>
 iteO (decide (i88 < ((x1.length : Nat) : Int)))
 (guardO (0 ≤ i88 ∧ i88 < ((x1.length : Nat) : Int)) <|
 bindO (laws_toNode (x1.getD i88.toNat dnod)) fun (i119, s120, i121) =>
 guardO (0 ≤ i88 ∧ i88 < ((x87.length : Nat) : Int)) <|
 laws_toNodeS_L1 x1 n (x87.set i88.toNat (⟨i119, s120, i121⟩ : Nod)) (w64 (i88 + 1)))
 (some x87)

theorem laws_toNodeS_L1_ok (w : World) (X : Nat → Prop) (θ : List Loc) (x1 : List Nod) (x107 : (List Nod)) : ∀ (n : Nat) (x87 : List Nod) (i88 : Int), laws_toNodeS_L1 x1 n x87 i88 = some x107 → WL EE ⟨w, X, θ, 23, 1⟩ (subC [1, 1, 0, 1, 4, 4] (bodyC Try.f9)) (fun (e : Exit) (s : St) => e = .exit 0 ∧ s = ⟨[(3, .one (.e (.sl 1 0 x107.length)))], [.row .nod x1 false, .row .nod x107 true]⟩) ⟨[(0, .one (.e (.sl 0 0 x1.length))), (3, .one (.e (.sl 1 0 x87.length))), (4, I i88)], [.row .nod x1 false, .row .nod x87 true]⟩ := by
  intro n
  induction n with
  | zero => intro _ _ h; exact none_e h
  | succ n ih =>
    intro x87 i88 h
    rw [laws_toNodeS_L1] at h
    refine WL_round ?_
    refine W_seq ?_
    refine W_seq ?_
    refine W_region ?_
    refine WO_step 4 [0, 1] [0, 3, 4, 11] (True ∧ (True ∧ True)) ⟨[(0, .one (.e (.sl 0 0 x1.length))), (3, .one (.e (.sl 1 0 x87.length))), (4, I i88), (11, B (decide (i88 < ((x1.length : Nat) : Int))))], [.row .nod x1 false, .row .nod x87 true]⟩ (by kernel_rfl) ⟨trivial, trivial, trivial⟩ ?_
    refine WO_nil rfl ?_
    refine thenS_n ?_
    refine iteO_e h (fun hb110 h => W_true rfl hb110 ?_) (fun hb110 h => W_false rfl hb110 ?_)
    · refine W_sub [0, 1] [0, 3, 4] (st' := ⟨[(0, .one (.e (.sl 0 0 x1.length))), (3, .one (.e (.sl 1 0 x87.length))), (4, I i88)], [.row .nod x1 false, .row .nod x87 true]⟩) (by kernel_rfl) ?_
      refine W_skip ?_
      refine thenS_n ?_
      refine W_seq ?_
      refine W_block ?_
      refine W_region ?_
      refine guardO_e h (fun hg118 h => ?_)
      refine WO_step 6 [0, 1] [0, 3, 4, 14, 15, 19] ((0 ≤ i88 ∧ i88 < ((x1.length : Nat) : Int)) ∧ (True ∧ True)) ⟨[(0, .one (.e (.sl 0 0 x1.length))), (3, .one (.e (.sl 1 0 x87.length))), (4, I i88), (14, .one (.e (.sl 1 0 x87.length))), (15, I i88), (19, AGG [cI ((x1.getD i88.toNat dnod).parent), cS ((x1.getD i88.toNat dnod).name), cI ((x1.getD i88.toNat dnod).value)])], [.row .nod x1 false, .row .nod x87 true]⟩ (by kernel_rfl) ⟨hg118, trivial, trivial⟩ ?_
      refine bindO_e h (fun v124 hc122 h => ?_)
      obtain ⟨i119, s120, i121⟩ := v124
      refine WO_call [] Try.f19 rfl rfl rfl (by kernel_rfl) rfl rfl (by kernel_rfl) (laws_toNode_ok (x1.getD i88.toNat dnod) i119 s120 i121 hc122) (trivial) rfl ?_
      refine guardO_e h (fun hg123 h => ?_)
      refine WO_step 2 [0, 1] [0, 3, 4] ((0 ≤ i88 ∧ i88 < ((x87.length : Nat) : Int)) ∧ (True ∧ True)) ⟨[(0, .one (.e (.sl 0 0 x1.length))), (3, .one (.e (.sl 1 0 x87.length))), (4, I i88)], [.row .nod x1 false, .row .nod (x87.set i88.toNat (⟨i119, s120, i121⟩ : Nod)) true]⟩ (by kernel_rfl) ⟨hg123, trivial, trivial⟩ ?_
      refine WO_eq (st' := ⟨[(0, .one (.e (.sl 0 0 x1.length))), (3, .one (.e (.sl 1 0 ((x87.set i88.toNat (⟨i119, s120, i121⟩ : Nod)).length)))), (4, I i88)], [.row .nod x1 false, .row .nod (x87.set i88.toNat (⟨i119, s120, i121⟩ : Nod)) true]⟩) (by simp only [List.length_set]) ?_
      refine WO_nil rfl ?_
      refine blockS_n ?_
      refine thenS_n ?_
      refine W_region ?_
      refine WO_step 3 [0, 1] [0, 3, 4] (True ∧ True) ⟨[(0, .one (.e (.sl 0 0 x1.length))), (3, .one (.e (.sl 1 0 ((x87.set i88.toNat (⟨i119, s120, i121⟩ : Nod)).length)))), (4, I (w64 (i88 + 1)))], [.row .nod x1 false, .row .nod (x87.set i88.toNat (⟨i119, s120, i121⟩ : Nod)) true]⟩ (by kernel_rfl) ⟨trivial, trivial⟩ ?_
      refine WO_nil rfl ?_
      refine thenS_n ?_
      exact ih _ _ h
    · refine W_sub [0, 1] [3] (st' := ⟨[(3, .one (.e (.sl 1 0 x87.length)))], [.row .nod x1 false, .row .nod x87 true]⟩) (by kernel_rfl) ?_
      refine W_exit ?_
      refine thenS_e ?_
      refine thenS_e ?_
      cases h
      exact And.intro rfl rfl

def laws_toNodeS (n : Nat) (x1 : List Nod) : Option ((List Nod)) :=
 guardO ((((x1.length : Nat) : Int) : Int) = ((x1.length : Nat) : Int) ∧ 0 ≤ ((x1.length : Nat) : Int) ∧ ((x1.length : Nat) : Int) ≤ 1099511627776) <|
 bindO (laws_toNodeS_L1 x1 n (List.replicate (((x1.length : Nat) : Int).toNat) dnod) 0) fun x107 =>
 some x107

theorem laws_toNodeS_ok (n : Nat) (x1 : List Nod) (x63 : List Nod) (h : laws_toNodeS n x1 = some x63) : FOk EE 9 [.one (.e (.sl 0 0 x1.length))] [.row .nod x1 false] (.one (.e (.sl 1 0 x63.length))) [.row .nod x1 false, .row .nod x63 true] := by
  unfold laws_toNodeS at h
  refine FOk_of_W 23 1 Try.func9 rfl rfl (Nat.le_of_ble_eq_true rfl) rfl (fun w X θ => ?_)
  refine W_seq ?_
  refine W_region ?_
  refine WO_step 1 [0] [0] True ⟨[(0, .one (.e (.sl 0 0 x1.length)))], [.row .nod x1 false]⟩ (by kernel_rfl) trivial ?_
  refine WO_nil rfl ?_
  refine thenS_n ?_
  refine W_seq ?_
  refine W_region ?_
  refine guardO_e h (fun hg64 h => ?_)
  refine WO_step 4 [0, 1] [0, 3] (True ∧ (((((x1.length : Nat) : Int) : Int) = ((x1.length : Nat) : Int) ∧ 0 ≤ ((x1.length : Nat) : Int) ∧ ((x1.length : Nat) : Int) ≤ 1099511627776) ∧ True)) ⟨[(0, .one (.e (.sl 0 0 x1.length))), (3, .one (.e (.sl 1 0 ((List.replicate (((x1.length : Nat) : Int).toNat) dnod).length))))], [.row .nod x1 false, .row .nod (List.replicate (((x1.length : Nat) : Int).toNat) dnod) true]⟩ (by kernel_rfl) ⟨trivial, hg64, trivial⟩ ?_
  refine WO_nil rfl ?_
  refine thenS_n ?_
  refine W_seq ?_
  refine W_seq ?_
  refine W_region ?_
  refine WO_step 1 [0, 1] [0, 3, 4] True ⟨[(0, .one (.e (.sl 0 0 x1.length))), (3, .one (.e (.sl 1 0 ((List.replicate (((x1.length : Nat) : Int).toNat) dnod).length)))), (4, I 0)], [.row .nod x1 false, .row .nod (List.replicate (((x1.length : Nat) : Int).toNat) dnod) true]⟩ (by kernel_rfl) trivial ?_
  refine WO_nil rfl ?_
  refine thenS_n ?_
  refine W_block ?_
  refine W_loop ?_
  refine bindO_e h (fun x107 hx107 h => ?_)
  refine WL_cut (laws_toNodeS_L1_ok w X θ x1 x107 n (List.replicate (((x1.length : Nat) : Int).toNat) dnod) 0 hx107) ?_
  rintro _ _ ⟨rfl, rfl⟩
  refine blockS_y ?_
  refine thenS_n ?_
  refine W_seq ?_
  refine W_region ?_
  refine WO_step 2 [0, 1] [2] True ⟨[(2, .one (.e (.sl 1 0 x107.length)))], [.row .nod x1 false, .row .nod x107 true]⟩ (by kernel_rfl) trivial ?_
  refine WO_nil rfl ?_
  refine thenS_n ?_
  refine W_ret ?_
  cases h
  exact ⟨[0, 1], True, by kernel_rfl, trivial⟩

/- spec.inRange -/
def spec_inRange (i1 : Int) (i2 : Int) (i3 : Int) : Bool :=
((decide (i2 ≤ i1)) && (decide (i1 ≤ i3)))

theorem spec_inRange_ok (i1 : Int) (i2 : Int) (i3 : Int) : FOk EE 36 [I i1, I i2, I i3] [] (B (spec_inRange i1 i2 i3)) [] := by
  refine FOk_of_W 15 0 Try.func36 rfl rfl (Nat.le_of_ble_eq_true rfl) rfl (fun w X θ => ?_)
  refine W_seq ?_
  refine W_region ?_
  refine WO_step 1 [] [0, 1, 2] True ⟨[(0, I i1), (1, I i2), (2, I i3)], []⟩ (by kernel_rfl) trivial ?_
  refine WO_nil rfl ?_
  refine thenS_n ?_
  refine W_seq ?_
  refine W_region ?_
  refine WO_step 4 [] [0, 2, 10] (True ∧ True) ⟨[(0, I i1), (2, I i3), (10, B (decide (i2 ≤ i1)))], []⟩ (by kernel_rfl) ⟨trivial, trivial⟩ ?_
  refine WO_thru ⟨[(6, B ((decide (i2 ≤ i1)) && (decide (i1 ≤ i3))))], []⟩ ?_ ?_
  · refine WO_if 10 rfl (fun hb10 => ?_) (fun hb10 => ?_)
    · refine WO_step 5 [] [6] (True ∧ True) ⟨[(6, B (decide (i1 ≤ i3)))], []⟩ (by kernel_rfl) ⟨trivial, trivial⟩ ?_
      exact WO_nil rfl ⟨rfl, by first | rfl | (rw [hb10]; first | done | rfl)⟩
    · refine WO_step 5 [] [6] True ⟨[(6, B false)], []⟩ (by kernel_rfl) trivial ?_
      exact WO_nil rfl ⟨rfl, by first | rfl | (rw [hb10]; first | done | rfl)⟩
  · refine thenS_n ?_
    refine W_ret ?_
    exact ⟨[], True, by kernel_rfl, trivial⟩

/- spec.validName -/
def spec_validName_L1 (s1 : Str) : Nat → Int → Option ((Unit) ⊕ (Unit))
| 0, _ => none
| n + 1, i44 =>
 iteO (decide (i44 < ((s1.length : Nat) : Int)))
 (guardO (0 ≤ i44 ∧ i44 < ((s1.length : Nat) : Int)) <|
 iteO (!(spec_inRange (w64 ((s1.getD i44.toNat 0).toNat : Int)) 97 122))
 (some (.inl ()))
 (spec_validName_L1 s1 n (w64 (i44 + 1))))
 (some (.inr ()))

theorem spec_validName_L1_ok (w : World) (X : Nat → Prop) (θ : List Loc) (s1 : Str) (v : (Unit) ⊕ (Unit)) : ∀ (n : Nat) (i44 : Int), spec_validName_L1 s1 n i44 = some v → WL EE ⟨w, X, θ, 19, 0⟩ (subC [1, 0, 1, 4, 4] (bodyC Try.f49)) (fun (e : Exit) (s : St) => (match v with | (.inl _) => e = .ret ∧ s = ⟨[(2, B false)], []⟩ | (.inr _) => e = .exit 0 ∧ s = ⟨[(0, S s1)], []⟩ : Prop)) ⟨[(0, S s1), (3, I i44)], []⟩ := by
  intro n
  induction n with
  | zero => intro _ h; exact none_e h
  | succ n ih =>
    intro i44 h
    rw [spec_validName_L1] at h
    refine WL_round ?_
    refine W_seq ?_
    refine W_seq ?_
    refine W_region ?_
    refine WO_step 4 [] [0, 3, 7] (True ∧ (True ∧ True)) ⟨[(0, S s1), (3, I i44), (7, B (decide (i44 < ((s1.length : Nat) : Int))))], []⟩ (by kernel_rfl) ⟨trivial, trivial, trivial⟩ ?_
    refine WO_nil rfl ?_
    refine thenS_n ?_
    refine iteO_e h (fun hb56 h => W_true rfl hb56 ?_) (fun hb56 h => W_false rfl hb56 ?_)
    · refine W_sub [] [0, 3] (st' := ⟨[(0, S s1), (3, I i44)], []⟩) (by kernel_rfl) ?_
      refine W_skip ?_
      refine thenS_n ?_
      refine W_seq ?_
      refine W_block ?_
      refine W_seq ?_
      refine W_region ?_
      refine guardO_e h (fun hg60 h => ?_)
      refine WO_step 4 [] [0, 3, 13] ((0 ≤ i44 ∧ i44 < ((s1.length : Nat) : Int)) ∧ (True ∧ True)) ⟨[(0, S s1), (3, I i44), (13, I (w64 ((s1.getD i44.toNat 0).toNat : Int)))], []⟩ (by kernel_rfl) ⟨hg60, trivial, trivial⟩ ?_
      refine WO_call [] Try.f36 rfl rfl rfl (by kernel_rfl) rfl rfl (by kernel_rfl) (spec_inRange_ok (w64 ((s1.getD i44.toNat 0).toNat : Int)) 97 122) (trivial) rfl ?_
      refine WO_step 1 [] [0, 3, 15] True ⟨[(0, S s1), (3, I i44), (15, B (!(spec_inRange (w64 ((s1.getD i44.toNat 0).toNat : Int)) 97 122)))], []⟩ (by kernel_rfl) trivial ?_
      refine WO_nil rfl ?_
      refine thenS_n ?_
      refine iteO_e h (fun hb62 h => W_true rfl hb62 ?_) (fun hb62 h => W_false rfl hb62 ?_)
      · refine W_seq ?_
        refine W_region ?_
        refine WO_step 1 [] [2] True ⟨[(2, B false)], []⟩ (by kernel_rfl) trivial ?_
        refine WO_nil rfl ?_
        refine thenS_n ?_
        refine W_ret ?_
        refine blockS_r ?_
        refine thenS_r ?_
        refine thenS_r ?_
        cases h
        exact And.intro rfl rfl
      · refine W_sub [] [0, 3] (st' := ⟨[(0, S s1), (3, I i44)], []⟩) (by kernel_rfl) ?_
        refine W_skip ?_
        refine blockS_n ?_
        refine thenS_n ?_
        refine W_region ?_
        refine WO_step 3 [] [0, 3] (True ∧ True) ⟨[(0, S s1), (3, I (w64 (i44 + 1)))], []⟩ (by kernel_rfl) ⟨trivial, trivial⟩ ?_
        refine WO_nil rfl ?_
        refine thenS_n ?_
        exact ih _ h
    · refine W_sub [] [0] (st' := ⟨[(0, S s1)], []⟩) (by kernel_rfl) ?_
      refine W_exit ?_
      refine thenS_e ?_
      refine thenS_e ?_
      cases h
      exact And.intro rfl rfl

def spec_validName (n : Nat) (s1 : Str) : Option (Bool) :=
 bindO (spec_validName_L1 s1 n 0) fun v63 =>
 match v63 with
 | (.inl _) => (some false)
 | (.inr _) => (some (spec_inRange ((s1.length : Nat) : Int) 1 4))


theorem spec_validName_ok (n : Nat) (s1 : Str) (b32 : Bool) (h : spec_validName n s1 = some b32) : FOk EE 49 [S s1] [] (B b32) [] := by
  unfold spec_validName at h
  refine FOk_of_W 19 0 Try.func49 rfl rfl (Nat.le_of_ble_eq_true rfl) rfl (fun w X θ => ?_)
  refine W_seq ?_
  refine W_region ?_
  refine WO_step 1 [] [0] True ⟨[(0, S s1)], []⟩ (by kernel_rfl) trivial ?_
  refine WO_nil rfl ?_
  refine thenS_n ?_
  refine W_seq ?_
  refine W_seq ?_
  refine W_region ?_
  refine WO_step 1 [] [0, 3] True ⟨[(0, S s1), (3, I 0)], []⟩ (by kernel_rfl) trivial ?_
  refine WO_nil rfl ?_
  refine thenS_n ?_
  refine W_block ?_
  refine W_loop ?_
  refine bindO_e h (fun v63 hv63 h => ?_)
  refine WL_cut (spec_validName_L1_ok w X θ s1 v63 n 0 hv63) ?_
  rcases v63 with _ | _
  · rintro _ _ ⟨rfl, rfl⟩
    refine blockS_r ?_
    refine thenS_r ?_
    cases h
    exact ⟨[], True, by kernel_rfl, trivial⟩
  · rintro _ _ ⟨rfl, rfl⟩
    refine blockS_y ?_
    refine thenS_n ?_
    refine W_seq ?_
    refine W_region ?_
    refine WO_step 2 [] [17] (True ∧ True) ⟨[(17, I ((s1.length : Nat) : Int))], []⟩ (by kernel_rfl) ⟨trivial, trivial⟩ ?_
    refine WO_call [] Try.f36 rfl rfl rfl (by kernel_rfl) rfl rfl (by kernel_rfl) (spec_inRange_ok ((s1.length : Nat) : Int) 1 4) (trivial) rfl ?_
    refine WO_step 1 [] [2] True ⟨[(2, B (spec_inRange ((s1.length : Nat) : Int) 1 4))], []⟩ (by kernel_rfl) trivial ?_
    refine WO_nil rfl ?_
    refine thenS_n ?_
    refine W_ret ?_
    cases h
    exact ⟨[], True, by kernel_rfl, trivial⟩

/- spec.kid -/
def spec_kid_L1 (x1 : List Nod) (i2 : Int) (s3 : Str) : Nat → Int → Option ((Int) ⊕ (Unit))
| 0, _ => none
| n + 1, i97 =>
 iteO (decide (i97 < ((x1.length : Nat) : Int)))
 (guardO (0 ≤ i97 ∧ i97 < ((x1.length : Nat) : Int)) <|
 bindO (iteO (decide (((x1.getD i97.toNat dnod).parent) = i2))
 (guardO (0 ≤ i97 ∧ i97 < ((x1.length : Nat) : Int)) <|
 some (decide (((x1.getD i97.toNat dnod).name) = s3)))
 (some false)) fun b135 =>
 iteO b135
 (some (.inl i97))
 (spec_kid_L1 x1 i2 s3 n (w64 (i97 + 1))))
 (some (.inr ()))

theorem spec_kid_L1_ok (w : World) (X : Nat → Prop) (θ : List Loc) (x1 : List Nod) (i2 : Int) (s3 : Str) (v : (Int) ⊕ (Unit)) : ∀ (n : Nat) (i97 : Int), spec_kid_L1 x1 i2 s3 n i97 = some v → WL EE ⟨w, X, θ, 31, 1⟩ (subC [1, 0, 1, 4, 4] (bodyC Try.f50)) (fun (e : Exit) (s : St) => (match v with | (.inl i119) => e = .ret ∧ s = ⟨[(6, I i119)], [.row .nod x1 false]⟩ | (.inr _) => e = .exit 0 ∧ s = ⟨[], [.row .nod x1 false]⟩ : Prop)) ⟨[(0, .one (.e (.sl 0 0 x1.length))), (1, I i2), (2, S s3), (7, I i97)], [.row .nod x1 false]⟩ := by
  intro n
  induction n with
  | zero => intro _ h; exact none_e h
  | succ n ih =>
    intro i97 h
    rw [spec_kid_L1] at h
    refine WL_round ?_
    refine W_seq ?_
    refine W_seq ?_
    refine W_region ?_
    refine WO_step 4 [0] [0, 1, 2, 7, 11] (True ∧ (True ∧ True)) ⟨[(0, .one (.e (.sl 0 0 x1.length))), (1, I i2), (2, S s3), (7, I i97), (11, B (decide (i97 < ((x1.length : Nat) : Int))))], [.row .nod x1 false]⟩ (by kernel_rfl) ⟨trivial, trivial, trivial⟩ ?_
    refine WO_nil rfl ?_
    refine thenS_n ?_
    refine iteO_e h (fun hb122 h => W_true rfl hb122 ?_) (fun hb122 h => W_false rfl hb122 ?_)
    · refine W_sub [0] [0, 1, 2, 7] (st' := ⟨[(0, .one (.e (.sl 0 0 x1.length))), (1, I i2), (2, S s3), (7, I i97)], [.row .nod x1 false]⟩) (by kernel_rfl) ?_
      refine W_skip ?_
      refine thenS_n ?_
      refine W_seq ?_
      refine W_block ?_
      refine W_seq ?_
      refine W_region ?_
      refine guardO_e h (fun hg132 h => ?_)
      refine WO_step 8 [0] [0, 1, 2, 7, 21] ((0 ≤ i97 ∧ i97 < ((x1.length : Nat) : Int)) ∧ (True ∧ (True ∧ True))) ⟨[(0, .one (.e (.sl 0 0 x1.length))), (1, I i2), (2, S s3), (7, I i97), (21, B (decide (((x1.getD i97.toNat dnod).parent) = i2)))], [.row .nod x1 false]⟩ (by kernel_rfl) ⟨hg132, trivial, trivial, trivial⟩ ?_
      refine bindO_e h (fun b135 hv136 h => ?_)
      refine WO_thru ⟨[(0, .one (.e (.sl 0 0 x1.length))), (1, I i2), (2, S s3), (7, I i97), (29, B b135)], [.row .nod x1 false]⟩ ?_ ?_
      · refine iteO_e hv136 (fun hb137 hv136 => WO_known 21 true rfl hb137 ?_) (fun hb137 hv136 => WO_known 21 false rfl hb137 ?_)
        · refine guardO_e hv136 (fun hg138 hv136 => ?_)
          refine WO_step 8 [0] [0, 1, 2, 7, 29] ((0 ≤ i97 ∧ i97 < ((x1.length : Nat) : Int)) ∧ (True ∧ (True ∧ True))) ⟨[(0, .one (.e (.sl 0 0 x1.length))), (1, I i2), (2, S s3), (7, I i97), (29, B (decide (((x1.getD i97.toNat dnod).name) = s3)))], [.row .nod x1 false]⟩ (by kernel_rfl) ⟨hg138, trivial, trivial, trivial⟩ ?_
          cases hv136
          exact WO_nil rfl ⟨rfl, rfl⟩
        · refine WO_step 8 [0] [0, 1, 2, 7, 29] True ⟨[(0, .one (.e (.sl 0 0 x1.length))), (1, I i2), (2, S s3), (7, I i97), (29, B false)], [.row .nod x1 false]⟩ (by kernel_rfl) trivial ?_
          cases hv136
          exact WO_nil rfl ⟨rfl, rfl⟩
      · refine thenS_n ?_
        refine iteO_e h (fun hb140 h => W_true rfl hb140 ?_) (fun hb140 h => W_false rfl hb140 ?_)
        · refine W_seq ?_
          refine W_region ?_
          refine WO_step 2 [0] [6] True ⟨[(6, I i97)], [.row .nod x1 false]⟩ (by kernel_rfl) trivial ?_
          refine WO_nil rfl ?_
          refine thenS_n ?_
          refine W_ret ?_
          refine blockS_r ?_
          refine thenS_r ?_
          refine thenS_r ?_
          cases h
          exact And.intro rfl rfl
        · refine W_sub [0] [0, 1, 2, 7] (st' := ⟨[(0, .one (.e (.sl 0 0 x1.length))), (1, I i2), (2, S s3), (7, I i97)], [.row .nod x1 false]⟩) (by kernel_rfl) ?_
          refine W_skip ?_
          refine blockS_n ?_
          refine thenS_n ?_
          refine W_region ?_
          refine WO_step 3 [0] [0, 1, 2, 7] (True ∧ True) ⟨[(0, .one (.e (.sl 0 0 x1.length))), (1, I i2), (2, S s3), (7, I (w64 (i97 + 1)))], [.row .nod x1 false]⟩ (by kernel_rfl) ⟨trivial, trivial⟩ ?_
          refine WO_nil rfl ?_
          refine thenS_n ?_
          exact ih _ h
    · refine W_sub [0] [] (st' := ⟨[], [.row .nod x1 false]⟩) (by kernel_rfl) ?_
      refine W_exit ?_
      refine thenS_e ?_
      refine thenS_e ?_
      cases h
      exact And.intro rfl rfl

def spec_kid (n : Nat) (x1 : List Nod) (i2 : Int) (s3 : Str) : Option (Int) :=
 bindO (spec_kid_L1 x1 i2 s3 n 1) fun v141 =>
 match v141 with
 | (.inl i119) => (some i119)
 | (.inr _) => (some (-1))


theorem spec_kid_ok (n : Nat) (x1 : List Nod) (i2 : Int) (s3 : Str) (i72 : Int) (h : spec_kid n x1 i2 s3 = some i72) : FOk EE 50 [.one (.e (.sl 0 0 x1.length)), I i2, S s3] [.row .nod x1 false] (I i72) [.row .nod x1 false] := by
  unfold spec_kid at h
  refine FOk_of_W 31 1 Try.func50 rfl rfl (Nat.le_of_ble_eq_true rfl) rfl (fun w X θ => ?_)
  refine W_seq ?_
  refine W_region ?_
  refine WO_step 1 [0] [0, 1, 2] True ⟨[(0, .one (.e (.sl 0 0 x1.length))), (1, I i2), (2, S s3)], [.row .nod x1 false]⟩ (by kernel_rfl) trivial ?_
  refine WO_nil rfl ?_
  refine thenS_n ?_
  refine W_seq ?_
  refine W_seq ?_
  refine W_region ?_
  refine WO_step 1 [0] [0, 1, 2, 7] True ⟨[(0, .one (.e (.sl 0 0 x1.length))), (1, I i2), (2, S s3), (7, I 1)], [.row .nod x1 false]⟩ (by kernel_rfl) trivial ?_
  refine WO_nil rfl ?_
  refine thenS_n ?_
  refine W_block ?_
  refine W_loop ?_
  refine bindO_e h (fun v141 hv141 h => ?_)
  refine WL_cut (spec_kid_L1_ok w X θ x1 i2 s3 v141 n 1 hv141) ?_
  rcases v141 with i119 | _
  · rintro _ _ ⟨rfl, rfl⟩
    refine blockS_r ?_
    refine thenS_r ?_
    cases h
    exact ⟨[0], True, by kernel_rfl, trivial⟩
  · rintro _ _ ⟨rfl, rfl⟩
    refine blockS_y ?_
    refine thenS_n ?_
    refine W_seq ?_
    refine W_region ?_
    refine WO_step 1 [0] [6] True ⟨[(6, I (-1))], [.row .nod x1 false]⟩ (by kernel_rfl) trivial ?_
    refine WO_nil rfl ?_
    refine thenS_n ?_
    refine W_ret ?_
    cases h
    exact ⟨[0], True, by kernel_rfl, trivial⟩

/- spec.depth -/
def spec_depth_L1 (x1 : List Nod) : Nat → Int → Int → Option (Int)
| 0, _, _ => none
| n + 1, i42, i43 =>
 guardO (0 ≤ i42 ∧ i42 < ((x1.length : Nat) : Int)) <|
 iteO (decide (0 ≤ ((x1.getD i42.toNat dnod).parent)))
 (guardO (0 ≤ i42 ∧ i42 < ((x1.length : Nat) : Int)) <|
 spec_depth_L1 x1 n ((x1.getD i42.toNat dnod).parent) (w64 (i43 + 1)))
 (some i43)

theorem spec_depth_L1_ok (w : World) (X : Nat → Prop) (θ : List Loc) (x1 : List Nod) (i51 : Int) : ∀ (n : Nat) (i42 : Int) (i43 : Int), spec_depth_L1 x1 n i42 i43 = some i51 → WL EE ⟨w, X, θ, 20, 1⟩ (subC [1, 1, 0, 4, 4] (bodyC Try.f51)) (fun (e : Exit) (s : St) => e = .exit 0 ∧ s = ⟨[(5, I i51)], [.row .nod x1 false]⟩) ⟨[(0, .one (.e (.sl 0 0 x1.length))), (1, I i42), (5, I i43)], [.row .nod x1 false]⟩ := by
  intro n
  induction n with
  | zero => intro _ _ h; exact none_e h
  | succ n ih =>
    intro i42 i43 h
    rw [spec_depth_L1] at h
    refine WL_round ?_
    refine W_seq ?_
    refine W_seq ?_
    refine W_region ?_
    refine guardO_e h (fun hg53 h => ?_)
    refine WO_step 6 [0] [0, 1, 5, 11] ((0 ≤ i42 ∧ i42 < ((x1.length : Nat) : Int)) ∧ (True ∧ (True ∧ True))) ⟨[(0, .one (.e (.sl 0 0 x1.length))), (1, I i42), (5, I i43), (11, B (decide (0 ≤ ((x1.getD i42.toNat dnod).parent))))], [.row .nod x1 false]⟩ (by kernel_rfl) ⟨hg53, trivial, trivial, trivial⟩ ?_
    refine WO_nil rfl ?_
    refine thenS_n ?_
    refine iteO_e h (fun hb55 h => W_true rfl hb55 ?_) (fun hb55 h => W_false rfl hb55 ?_)
    · refine W_sub [0] [0, 1, 5] (st' := ⟨[(0, .one (.e (.sl 0 0 x1.length))), (1, I i42), (5, I i43)], [.row .nod x1 false]⟩) (by kernel_rfl) ?_
      refine W_skip ?_
      refine thenS_n ?_
      refine W_block ?_
      refine W_seq ?_
      refine W_region ?_
      refine guardO_e h (fun hg57 h => ?_)
      refine WO_step 6 [0] [0, 1, 5] ((0 ≤ i42 ∧ i42 < ((x1.length : Nat) : Int)) ∧ (True ∧ True)) ⟨[(0, .one (.e (.sl 0 0 x1.length))), (1, I ((x1.getD i42.toNat dnod).parent)), (5, I i43)], [.row .nod x1 false]⟩ (by kernel_rfl) ⟨hg57, trivial, trivial⟩ ?_
      refine WO_nil rfl ?_
      refine thenS_n ?_
      refine W_region ?_
      refine WO_step 3 [0] [0, 1, 5] (True ∧ True) ⟨[(0, .one (.e (.sl 0 0 x1.length))), (1, I ((x1.getD i42.toNat dnod).parent)), (5, I (w64 (i43 + 1)))], [.row .nod x1 false]⟩ (by kernel_rfl) ⟨trivial, trivial⟩ ?_
      refine WO_nil rfl ?_
      refine blockS_n ?_
      refine thenS_n ?_
      exact ih _ _ h
    · refine W_sub [0] [5] (st' := ⟨[(5, I i43)], [.row .nod x1 false]⟩) (by kernel_rfl) ?_
      refine W_exit ?_
      refine thenS_e ?_
      refine thenS_e ?_
      cases h
      exact And.intro rfl rfl

def spec_depth (n : Nat) (x1 : List Nod) (i2 : Int) : Option (Int) :=
 bindO (spec_depth_L1 x1 n i2 0) fun i51 =>
 some i51

theorem spec_depth_ok (n : Nat) (x1 : List Nod) (i2 : Int) (i30 : Int) (h : spec_depth n x1 i2 = some i30) : FOk EE 51 [.one (.e (.sl 0 0 x1.length)), I i2] [.row .nod x1 false] (I i30) [.row .nod x1 false] := by
  unfold spec_depth at h
  refine FOk_of_W 20 1 Try.func51 rfl rfl (Nat.le_of_ble_eq_true rfl) rfl (fun w X θ => ?_)
  refine W_seq ?_
  refine W_region ?_
  refine WO_step 1 [0] [0, 1] True ⟨[(0, .one (.e (.sl 0 0 x1.length))), (1, I i2)], [.row .nod x1 false]⟩ (by kernel_rfl) trivial ?_
  refine WO_nil rfl ?_
  refine thenS_n ?_
  refine W_seq ?_
  refine W_region ?_
  refine WO_step 1 [0] [0, 1, 5] True ⟨[(0, .one (.e (.sl 0 0 x1.length))), (1, I i2), (5, I 0)], [.row .nod x1 false]⟩ (by kernel_rfl) trivial ?_
  refine WO_nil rfl ?_
  refine thenS_n ?_
  refine W_seq ?_
  refine W_block ?_
  refine W_loop ?_
  refine bindO_e h (fun i51 hi51 h => ?_)
  refine WL_cut (spec_depth_L1_ok w X θ x1 i51 n i2 0 hi51) ?_
  rintro _ _ ⟨rfl, rfl⟩
  refine blockS_y ?_
  refine thenS_n ?_
  refine W_seq ?_
  refine W_region ?_
  refine WO_step 2 [0] [4] True ⟨[(4, I i51)], [.row .nod x1 false]⟩ (by kernel_rfl) trivial ?_
  refine WO_nil rfl ?_
  refine thenS_n ?_
  refine W_ret ?_
  cases h
  exact ⟨[0], True, by kernel_rfl, trivial⟩

/- spec.validNode -/
def spec_validNode (n : Nat) (x1 : List Nod) (i2 : Int) : Option (Bool) :=
 guardO (0 ≤ i2 ∧ i2 < ((x1.length : Nat) : Int)) <|
 iteO (!(spec_inRange ((x1.getD i2.toNat dnod).value) (-1000) 1000))
 (some false)
 (iteO (decide (i2 = 0))
 (guardO (0 ≤ i2 ∧ i2 < ((x1.length : Nat) : Int)) <|
 bindO (iteO (decide (((x1.getD i2.toNat dnod).parent) = (-1)))
 (guardO (0 ≤ i2 ∧ i2 < ((x1.length : Nat) : Int)) <|
 some (decide (((x1.getD i2.toNat dnod).name) = [])))
 (some false)) fun b54 =>
 some b54)
 (guardO (0 ≤ i2 ∧ i2 < ((x1.length : Nat) : Int)) <|
 bindO (iteO (spec_inRange ((x1.getD i2.toNat dnod).parent) 0 (w64 (i2 - 1)))
 (guardO (0 ≤ i2 ∧ i2 < ((x1.length : Nat) : Int)) <|
 bindO (spec_validName n ((x1.getD i2.toNat dnod).name)) fun b61 =>
 iteO b61
 (guardO (0 ≤ i2 ∧ i2 ≤ ((x1.length : Nat) : Int)) <|
 guardO (0 ≤ i2 ∧ i2 < ((x1.length : Nat) : Int)) <|
 guardO (0 ≤ i2 ∧ i2 < ((x1.length : Nat) : Int)) <|
 bindO (spec_kid n ((x1.drop 0).take i2.toNat) ((x1.getD i2.toNat dnod).parent) ((x1.getD i2.toNat dnod).name)) fun i67 =>
 iteO (decide (i67 < 0))
 (bindO (spec_depth n x1 i2) fun i70 =>
 some (decide (i70 ≤ 4)))
 (some false))
 (some false))
 (some false)) fun b72 =>
 some b72))

theorem spec_validNode_ok (n : Nat) (x1 : List Nod) (i2 : Int) (b38 : Bool) (h : spec_validNode n x1 i2 = some b38) : FOk EE 35 [.one (.e (.sl 0 0 x1.length)), I i2] [.row .nod x1 false] (B b38) [.row .nod x1 false] := by
  unfold spec_validNode at h
  refine FOk_of_W 67 1 Try.func35 rfl rfl (Nat.le_of_ble_eq_true rfl) rfl (fun w X θ => ?_)
  refine W_seq ?_
  refine W_region ?_
  refine WO_step 1 [0] [0, 1] True ⟨[(0, .one (.e (.sl 0 0 x1.length))), (1, I i2)], [.row .nod x1 false]⟩ (by kernel_rfl) trivial ?_
  refine WO_nil rfl ?_
  refine thenS_n ?_
  refine W_seq ?_
  refine W_seq ?_
  refine W_region ?_
  refine guardO_e h (fun hg39 h => ?_)
  refine WO_step 5 [0] [0, 1, 9] ((0 ≤ i2 ∧ i2 < ((x1.length : Nat) : Int)) ∧ (True ∧ True)) ⟨[(0, .one (.e (.sl 0 0 x1.length))), (1, I i2), (9, I ((x1.getD i2.toNat dnod).value))], [.row .nod x1 false]⟩ (by kernel_rfl) ⟨hg39, trivial, trivial⟩ ?_
  refine WO_call [] Try.f36 rfl rfl rfl (by kernel_rfl) rfl rfl (by kernel_rfl) (spec_inRange_ok ((x1.getD i2.toNat dnod).value) (-1000) 1000) (trivial) rfl ?_
  refine WO_step 1 [0] [0, 1, 11] True ⟨[(0, .one (.e (.sl 0 0 x1.length))), (1, I i2), (11, B (!(spec_inRange ((x1.getD i2.toNat dnod).value) (-1000) 1000)))], [.row .nod x1 false]⟩ (by kernel_rfl) trivial ?_
  refine WO_nil rfl ?_
  refine thenS_n ?_
  refine iteO_e h (fun hb41 h => W_true rfl hb41 ?_) (fun hb41 h => W_false rfl hb41 ?_)
  · refine W_seq ?_
    refine W_region ?_
    refine WO_step 1 [0] [4] True ⟨[(4, B false)], [.row .nod x1 false]⟩ (by kernel_rfl) trivial ?_
    refine WO_nil rfl ?_
    refine thenS_n ?_
    refine W_ret ?_
    refine thenS_r ?_
    cases h
    exact ⟨[0], True, by kernel_rfl, trivial⟩
  · refine W_sub [0] [0, 1] (st' := ⟨[(0, .one (.e (.sl 0 0 x1.length))), (1, I i2)], [.row .nod x1 false]⟩) (by kernel_rfl) ?_
    refine W_skip ?_
    refine thenS_n ?_
    refine W_seq ?_
    refine W_seq ?_
    refine W_region ?_
    refine WO_step 2 [0] [0, 1, 13] (True ∧ True) ⟨[(0, .one (.e (.sl 0 0 x1.length))), (1, I i2), (13, B (decide (i2 = 0)))], [.row .nod x1 false]⟩ (by kernel_rfl) ⟨trivial, trivial⟩ ?_
    refine WO_nil rfl ?_
    refine thenS_n ?_
    refine iteO_e h (fun hb50 h => W_true rfl hb50 ?_) (fun hb50 h => W_false rfl hb50 ?_)
    · refine W_seq ?_
      refine W_region ?_
      refine guardO_e h (fun hg51 h => ?_)
      refine WO_step 7 [0] [0, 1, 20] ((0 ≤ i2 ∧ i2 < ((x1.length : Nat) : Int)) ∧ (True ∧ (True ∧ True))) ⟨[(0, .one (.e (.sl 0 0 x1.length))), (1, I i2), (20, B (decide (((x1.getD i2.toNat dnod).parent) = (-1))))], [.row .nod x1 false]⟩ (by kernel_rfl) ⟨hg51, trivial, trivial, trivial⟩ ?_
      refine bindO_e h (fun b54 hv55 h => ?_)
      refine WO_thru ⟨[(4, B b54)], [.row .nod x1 false]⟩ ?_ ?_
      · refine iteO_e hv55 (fun hb56 hv55 => WO_known 20 true rfl hb56 ?_) (fun hb56 hv55 => WO_known 20 false rfl hb56 ?_)
        · refine guardO_e hv55 (fun hg57 hv55 => ?_)
          refine WO_step 8 [0] [4] ((0 ≤ i2 ∧ i2 < ((x1.length : Nat) : Int)) ∧ (True ∧ (True ∧ True))) ⟨[(4, B (decide (((x1.getD i2.toNat dnod).name) = [])))], [.row .nod x1 false]⟩ (by kernel_rfl) ⟨hg57, trivial, trivial, trivial⟩ ?_
          cases hv55
          exact WO_nil rfl ⟨rfl, rfl⟩
        · refine WO_step 8 [0] [4] True ⟨[(4, B false)], [.row .nod x1 false]⟩ (by kernel_rfl) trivial ?_
          cases hv55
          exact WO_nil rfl ⟨rfl, rfl⟩
      · refine thenS_n ?_
        refine W_ret ?_
        refine thenS_r ?_
        cases h
        exact ⟨[0], True, by kernel_rfl, trivial⟩
    · refine W_sub [0] [0, 1] (st' := ⟨[(0, .one (.e (.sl 0 0 x1.length))), (1, I i2)], [.row .nod x1 false]⟩) (by kernel_rfl) ?_
      refine W_skip ?_
      refine thenS_n ?_
      refine W_seq ?_
      refine guardO_e h (fun hg58 h => ?_)
      refine bindO_e h (fun b72 hv73 h => ?_)
      refine W_cut (Q' := fun (e : Exit) (s : St) => e = .normal ∧ s = ⟨[(4, B b72)], [.row .nod x1 false]⟩) ?_ ?_
      · refine iteO_e hv73 (fun hb59 hv73 => ?_) (fun hb59 hv73 => ?_)
        · refine guardO_e hv73 (fun hg60 hv73 => ?_)
          refine bindO_e hv73 (fun b61 hc62 hv73 => ?_)
          refine iteO_e hv73 (fun hb63 hv73 => ?_) (fun hb63 hv73 => ?_)
          · refine guardO_e hv73 (fun hg64 hv73 => ?_)
            refine guardO_e hv73 (fun hg65 hv73 => ?_)
            refine guardO_e hv73 (fun hg66 hv73 => ?_)
            refine bindO_e hv73 (fun i67 hc68 hv73 => ?_)
            refine iteO_e hv73 (fun hb69 hv73 => ?_) (fun hb69 hv73 => ?_)
            · refine bindO_e hv73 (fun i70 hc71 hv73 => ?_)
              refine W_draw [] false (by kernel_rfl) (by kernel_rfl) ?_
              refine WD_takeK [0, 1, 2, 3, 4, 5, 6] [0, 1, 32, 34] [0, 1, 32, 34] (φ := ((0 ≤ i2 ∧ i2 < ((x1.length : Nat) : Int)) ∧ (0 ≤ i2 ∧ i2 < ((x1.length : Nat) : Int)) ∧ (True ∧ True ∧ (True ∧ True ∧ True)))) (ls' := #[true, true, true, true, true, true, true, false, false, false, false, false, false, false, false, false, false, false, false, false, false, false, false, false, false, false, false, false, false, false, false, false, false, false, false, false, false, false, false, false]) (Ts' := [(0, .one (.e (.sl 0 0 x1.length))), (1, I i2), (32, I ((x1.getD i2.toNat dnod).parent)), (34, I (w64 (i2 - 1)))]) (st' := ⟨[(0, .one (.e (.sl 0 0 x1.length))), (1, I i2), (32, I ((x1.getD i2.toNat dnod).parent)), (34, I (w64 (i2 - 1)))], [.row .nod x1 false]⟩) (n2 := 33) (by kernel_rfl) ⟨hg58, hg58, trivial, trivial, trivial, trivial, trivial⟩ rfl ?_
              refine WD_all [7] (n := 32) (by kernel_rfl) rfl ?_
              refine WM_call [] Try.f36 rfl rfl (by kernel_rfl) rfl rfl (by kernel_rfl) (spec_inRange_ok ((x1.getD i2.toNat dnod).parent) 0 (w64 (i2 - 1))) (trivial) rfl (And.intro rfl (trivial)) ?_
              refine WD_takeK [8] [0, 1, 36] [0, 1, 36] (φ := True) (ls' := #[true, true, true, true, true, true, true, true, true, false, false, false, false, false, false, false, false, false, false, false, false, false, false, false, false, false, false, false, false, false, false, false, false, false, false, false, false, false, false, false]) (Ts' := [(0, .one (.e (.sl 0 0 x1.length))), (1, I i2), (36, B (spec_inRange ((x1.getD i2.toNat dnod).parent) 0 (w64 (i2 - 1))))]) (st' := ⟨[(0, .one (.e (.sl 0 0 x1.length))), (1, I i2), (36, B (spec_inRange ((x1.getD i2.toNat dnod).parent) 0 (w64 (i2 - 1))))], [.row .nod x1 false]⟩) (n2 := 31) (by kernel_rfl) trivial rfl ?_
              refine WD_known 36 true rfl rfl hb59 ?_
              refine WD_takeK [9, 10, 11, 12, 13] [0, 1, 36, 41] [0, 1, 36, 41] (φ := ((0 ≤ i2 ∧ i2 < ((x1.length : Nat) : Int)) ∧ (0 ≤ i2 ∧ i2 < ((x1.length : Nat) : Int)) ∧ (True ∧ True ∧ True))) (ls' := #[true, true, true, true, true, true, true, true, true, true, true, true, true, true, false, false, false, false, false, false, false, false, false, false, false, false, false, false, false, false, false, false, false, false, false, false, false, false, false, false]) (Ts' := [(0, .one (.e (.sl 0 0 x1.length))), (1, I i2), (36, B true), (41, S ((x1.getD i2.toNat dnod).name))]) (st' := ⟨[(0, .one (.e (.sl 0 0 x1.length))), (1, I i2), (36, B true), (41, S ((x1.getD i2.toNat dnod).name))], [.row .nod x1 false]⟩) (n2 := 26) (by kernel_rfl) ⟨hg60, hg60, trivial, trivial, trivial⟩ rfl ?_
              refine WD_all [14] (n := 25) (by kernel_rfl) rfl ?_
              refine WM_call [] Try.f49 rfl rfl (by kernel_rfl) rfl rfl (by kernel_rfl) (spec_validName_ok n ((x1.getD i2.toNat dnod).name) b61 hc62) (trivial) rfl (And.intro rfl (trivial)) ?_
              refine WD_takeK [15, 16] [0, 1, 44] [0, 1, 44] (φ := True) (ls' := #[true, true, true, true, true, true, true, true, true, true, true, true, true, true, true, true, true, false, false, false, false, false, false, false, false, false, false, false, false, false, false, false, false, false, false, false, false, false, false, false]) (Ts' := [(0, .one (.e (.sl 0 0 x1.length))), (1, I i2), (44, B b61)]) (st' := ⟨[(0, .one (.e (.sl 0 0 x1.length))), (1, I i2), (44, B b61)], [.row .nod x1 false]⟩) (n2 := 23) (by kernel_rfl) trivial rfl ?_
              refine WD_known 44 true rfl rfl hb63 ?_
              refine WD_takeK [17, 18, 20, 21, 22, 23, 24, 25, 26, 27, 28, 29] [0, 1, 44, 45, 46, 52, 57] [0, 1, 44, 45, 46, 52, 57] (φ := ((0 ≤ i2 ∧ i2 < ((x1.length : Nat) : Int)) ∧ (0 ≤ i2 ∧ i2 < ((x1.length : Nat) : Int)) ∧ (True ∧ True ∧ ((0 ≤ i2 ∧ i2 < ((x1.length : Nat) : Int)) ∧ (0 ≤ i2 ∧ i2 < ((x1.length : Nat) : Int)) ∧ (True ∧ True ∧ True))))) (ls' := #[true, true, true, true, true, true, true, true, true, true, true, true, true, true, true, true, true, true, true, false, true, true, true, true, true, true, true, true, true, true, false, false, false, false, false, false, false, false, false, false]) (Ts' := [(0, .one (.e (.sl 0 0 x1.length))), (1, I i2), (44, B true), (45, .one (.e (.sl 0 0 x1.length))), (46, I i2), (52, I ((x1.getD i2.toNat dnod).parent)), (57, S ((x1.getD i2.toNat dnod).name))]) (st' := ⟨[(0, .one (.e (.sl 0 0 x1.length))), (1, I i2), (44, B true), (45, .one (.e (.sl 0 0 x1.length))), (46, I i2), (52, I ((x1.getD i2.toNat dnod).parent)), (57, S ((x1.getD i2.toNat dnod).name))], [.row .nod x1 false]⟩) (n2 := 11) (by kernel_rfl) ⟨hg65, hg65, trivial, trivial, hg66, hg66, trivial, trivial, trivial⟩ rfl ?_
              refine WD_all [19] (n := 10) (by kernel_rfl) rfl ?_
              refine WM_op (φ := 0 ≤ i2 ∧ i2 ≤ ((x1.length : Nat) : Int)) (v := .one (.e (.sl 0 0 i2.toNat))) (H' := [.row .nod x1 false]) rfl rfl (by kernel_rfl) hg64 rfl (And.intro rfl (trivial)) ?_
              refine WD_all [30] (n := 9) (by kernel_rfl) rfl ?_
              refine WM_call [.view 0] Try.f50 rfl rfl (by kernel_rfl) rfl rfl (by kernel_rfl) (spec_kid_ok n ((x1.drop 0).take i2.toNat) ((x1.getD i2.toNat dnod).parent) ((x1.getD i2.toNat dnod).name) i67 hc68) (trivial) rfl (And.intro rfl (trivial)) ?_
              refine WD_takeK [31, 32, 33] [0, 1, 61] [0, 1, 61] (φ := (True ∧ True ∧ True)) (ls' := #[true, true, true, true, true, true, true, true, true, true, true, true, true, true, true, true, true, true, true, true, true, true, true, true, true, true, true, true, true, true, true, true, true, true, false, false, false, false, false, false]) (Ts' := [(0, .one (.e (.sl 0 0 x1.length))), (1, I i2), (61, B (decide (i67 < 0)))]) (st' := ⟨[(0, .one (.e (.sl 0 0 x1.length))), (1, I i2), (61, B (decide (i67 < 0)))], [.row .nod x1 false]⟩) (n2 := 6) (by kernel_rfl) ⟨trivial, trivial, trivial⟩ rfl ?_
              refine WD_known 61 true rfl rfl hb69 ?_
              refine WD_takeK [34, 35] [61, 62, 63] [61, 62, 63] (φ := True) (ls' := #[true, true, true, true, true, true, true, true, true, true, true, true, true, true, true, true, true, true, true, true, true, true, true, true, true, true, true, true, true, true, true, true, true, true, true, true, false, false, false, false]) (Ts' := [(61, B true), (62, .one (.e (.sl 0 0 x1.length))), (63, I i2)]) (st' := ⟨[(61, B true), (62, .one (.e (.sl 0 0 x1.length))), (63, I i2)], [.row .nod x1 false]⟩) (n2 := 4) (by kernel_rfl) trivial rfl ?_
              refine WD_all [36] (n := 3) (by kernel_rfl) rfl ?_
              refine WM_call [.ro 0] Try.f51 rfl rfl (by kernel_rfl) rfl rfl (by kernel_rfl) (spec_depth_ok n x1 i2 i70 hc71) (And.intro (And.intro rfl rfl) (trivial)) rfl (And.intro rfl (trivial)) ?_
              refine WD_takeK [37, 38, 39] [4] [4] (φ := (True ∧ True ∧ True)) (ls' := #[true, true, true, true, true, true, true, true, true, true, true, true, true, true, true, true, true, true, true, true, true, true, true, true, true, true, true, true, true, true, true, true, true, true, true, true, true, true, true, true]) (Ts' := [(4, B (decide (i70 ≤ 4)))]) (st' := ⟨[(4, B (decide (i70 ≤ 4)))], [.row .nod x1 false]⟩) (n2 := 0) (by kernel_rfl) ⟨trivial, trivial, trivial⟩ rfl ?_
              exact WD_done [0] [4] (st' := ⟨[(4, B (decide (i70 ≤ 4)))], [.row .nod x1 false]⟩) (by kernel_rfl) (by kernel_rfl) (And.intro rfl (by cases hv73; rfl))
            · refine W_draw [] false (by kernel_rfl) (by kernel_rfl) ?_
              refine WD_takeK [0, 1, 2, 3, 4, 5, 6] [0, 1, 32, 34] [0, 1, 32, 34] (φ := ((0 ≤ i2 ∧ i2 < ((x1.length : Nat) : Int)) ∧ (0 ≤ i2 ∧ i2 < ((x1.length : Nat) : Int)) ∧ (True ∧ True ∧ (True ∧ True ∧ True)))) (ls' := #[true, true, true, true, true, true, true, false, false, false, false, false, false, false, false, false, false, false, false, false, false, false, false, false, false, false, false, false, false, false, false, false, false, false, false, false, false, false, false, false]) (Ts' := [(0, .one (.e (.sl 0 0 x1.length))), (1, I i2), (32, I ((x1.getD i2.toNat dnod).parent)), (34, I (w64 (i2 - 1)))]) (st' := ⟨[(0, .one (.e (.sl 0 0 x1.length))), (1, I i2), (32, I ((x1.getD i2.toNat dnod).parent)), (34, I (w64 (i2 - 1)))], [.row .nod x1 false]⟩) (n2 := 33) (by kernel_rfl) ⟨hg58, hg58, trivial, trivial, trivial, trivial, trivial⟩ rfl ?_
              refine WD_all [7] (n := 32) (by kernel_rfl) rfl ?_
              refine WM_call [] Try.f36 rfl rfl (by kernel_rfl) rfl rfl (by kernel_rfl) (spec_inRange_ok ((x1.getD i2.toNat dnod).parent) 0 (w64 (i2 - 1))) (trivial) rfl (And.intro rfl (trivial)) ?_
              refine WD_takeK [8] [0, 1, 36] [0, 1, 36] (φ := True) (ls' := #[true, true, true, true, true, true, true, true, true, false, false, false, false, false, false, false, false, false, false, false, false, false, false, false, false, false, false, false, false, false, false, false, false, false, false, false, false, false, false, false]) (Ts' := [(0, .one (.e (.sl 0 0 x1.length))), (1, I i2), (36, B (spec_inRange ((x1.getD i2.toNat dnod).parent) 0 (w64 (i2 - 1))))]) (st' := ⟨[(0, .one (.e (.sl 0 0 x1.length))), (1, I i2), (36, B (spec_inRange ((x1.getD i2.toNat dnod).parent) 0 (w64 (i2 - 1))))], [.row .nod x1 false]⟩) (n2 := 31) (by kernel_rfl) trivial rfl ?_
              refine WD_known 36 true rfl rfl hb59 ?_
              refine WD_takeK [9, 10, 11, 12, 13] [0, 1, 36, 41] [0, 1, 36, 41] (φ := ((0 ≤ i2 ∧ i2 < ((x1.length : Nat) : Int)) ∧ (0 ≤ i2 ∧ i2 < ((x1.length : Nat) : Int)) ∧ (True ∧ True ∧ True))) (ls' := #[true, true, true, true, true, true, true, true, true, true, true, true, true, true, false, false, false, false, false, false, false, false, false, false, false, false, false, false, false, false, false, false, false, false, false, false, false, false, false, false]) (Ts' := [(0, .one (.e (.sl 0 0 x1.length))), (1, I i2), (36, B true), (41, S ((x1.getD i2.toNat dnod).name))]) (st' := ⟨[(0, .one (.e (.sl 0 0 x1.length))), (1, I i2), (36, B true), (41, S ((x1.getD i2.toNat dnod).name))], [.row .nod x1 false]⟩) (n2 := 26) (by kernel_rfl) ⟨hg60, hg60, trivial, trivial, trivial⟩ rfl ?_
              refine WD_all [14] (n := 25) (by kernel_rfl) rfl ?_
              refine WM_call [] Try.f49 rfl rfl (by kernel_rfl) rfl rfl (by kernel_rfl) (spec_validName_ok n ((x1.getD i2.toNat dnod).name) b61 hc62) (trivial) rfl (And.intro rfl (trivial)) ?_
              refine WD_takeK [15, 16] [0, 1, 44] [0, 1, 44] (φ := True) (ls' := #[true, true, true, true, true, true, true, true, true, true, true, true, true, true, true, true, true, false, false, false, false, false, false, false, false, false, false, false, false, false, false, false, false, false, false, false, false, false, false, false]) (Ts' := [(0, .one (.e (.sl 0 0 x1.length))), (1, I i2), (44, B b61)]) (st' := ⟨[(0, .one (.e (.sl 0 0 x1.length))), (1, I i2), (44, B b61)], [.row .nod x1 false]⟩) (n2 := 23) (by kernel_rfl) trivial rfl ?_
              refine WD_known 44 true rfl rfl hb63 ?_
              refine WD_takeK [17, 18, 20, 21, 22, 23, 24, 25, 26, 27, 28, 29] [0, 1, 44, 45, 46, 52, 57] [0, 1, 44, 45, 46, 52, 57] (φ := ((0 ≤ i2 ∧ i2 < ((x1.length : Nat) : Int)) ∧ (0 ≤ i2 ∧ i2 < ((x1.length : Nat) : Int)) ∧ (True ∧ True ∧ ((0 ≤ i2 ∧ i2 < ((x1.length : Nat) : Int)) ∧ (0 ≤ i2 ∧ i2 < ((x1.length : Nat) : Int)) ∧ (True ∧ True ∧ True))))) (ls' := #[true, true, true, true, true, true, true, true, true, true, true, true, true, true, true, true, true, true, true, false, true, true, true, true, true, true, true, true, true, true, false, false, false, false, false, false, false, false, false, false]) (Ts' := [(0, .one (.e (.sl 0 0 x1.length))), (1, I i2), (44, B true), (45, .one (.e (.sl 0 0 x1.length))), (46, I i2), (52, I ((x1.getD i2.toNat dnod).parent)), (57, S ((x1.getD i2.toNat dnod).name))]) (st' := ⟨[(0, .one (.e (.sl 0 0 x1.length))), (1, I i2), (44, B true), (45, .one (.e (.sl 0 0 x1.length))), (46, I i2), (52, I ((x1.getD i2.toNat dnod).parent)), (57, S ((x1.getD i2.toNat dnod).name))], [.row .nod x1 false]⟩) (n2 := 11) (by kernel_rfl) ⟨hg65, hg65, trivial, trivial, hg66, hg66, trivial, trivial, trivial⟩ rfl ?_
              refine WD_all [19] (n := 10) (by kernel_rfl) rfl ?_
              refine WM_op (φ := 0 ≤ i2 ∧ i2 ≤ ((x1.length : Nat) : Int)) (v := .one (.e (.sl 0 0 i2.toNat))) (H' := [.row .nod x1 false]) rfl rfl (by kernel_rfl) hg64 rfl (And.intro rfl (trivial)) ?_
              refine WD_all [30] (n := 9) (by kernel_rfl) rfl ?_
              refine WM_call [.view 0] Try.f50 rfl rfl (by kernel_rfl) rfl rfl (by kernel_rfl) (spec_kid_ok n ((x1.drop 0).take i2.toNat) ((x1.getD i2.toNat dnod).parent) ((x1.getD i2.toNat dnod).name) i67 hc68) (trivial) rfl (And.intro rfl (trivial)) ?_
              refine WD_takeK [31, 32, 33] [0, 1, 61] [0, 1, 61] (φ := (True ∧ True ∧ True)) (ls' := #[true, true, true, true, true, true, true, true, true, true, true, true, true, true, true, true, true, true, true, true, true, true, true, true, true, true, true, true, true, true, true, true, true, true, false, false, false, false, false, false]) (Ts' := [(0, .one (.e (.sl 0 0 x1.length))), (1, I i2), (61, B (decide (i67 < 0)))]) (st' := ⟨[(0, .one (.e (.sl 0 0 x1.length))), (1, I i2), (61, B (decide (i67 < 0)))], [.row .nod x1 false]⟩) (n2 := 6) (by kernel_rfl) ⟨trivial, trivial, trivial⟩ rfl ?_
              refine WD_known 61 false rfl rfl hb69 ?_
              refine WD_takeK [34, 35, 36, 37, 38, 39] [4] [4] (φ := True) (ls' := #[true, true, true, true, true, true, true, true, true, true, true, true, true, true, true, true, true, true, true, true, true, true, true, true, true, true, true, true, true, true, true, true, true, true, true, true, true, true, true, true]) (Ts' := [(4, B false)]) (st' := ⟨[(4, B false)], [.row .nod x1 false]⟩) (n2 := 0) (by kernel_rfl) trivial rfl ?_
              exact WD_done [0] [4] (st' := ⟨[(4, B false)], [.row .nod x1 false]⟩) (by kernel_rfl) (by kernel_rfl) (And.intro rfl (by cases hv73; rfl))
          · refine W_draw [] false (by kernel_rfl) (by kernel_rfl) ?_
            refine WD_takeK [0, 1, 2, 3, 4, 5, 6] [0, 1, 32, 34] [0, 1, 32, 34] (φ := ((0 ≤ i2 ∧ i2 < ((x1.length : Nat) : Int)) ∧ (0 ≤ i2 ∧ i2 < ((x1.length : Nat) : Int)) ∧ (True ∧ True ∧ (True ∧ True ∧ True)))) (ls' := #[true, true, true, true, true, true, true, false, false, false, false, false, false, false, false, false, false, false, false, false, false, false, false, false, false, false, false, false, false, false, false, false, false, false, false, false, false, false, false, false]) (Ts' := [(0, .one (.e (.sl 0 0 x1.length))), (1, I i2), (32, I ((x1.getD i2.toNat dnod).parent)), (34, I (w64 (i2 - 1)))]) (st' := ⟨[(0, .one (.e (.sl 0 0 x1.length))), (1, I i2), (32, I ((x1.getD i2.toNat dnod).parent)), (34, I (w64 (i2 - 1)))], [.row .nod x1 false]⟩) (n2 := 33) (by kernel_rfl) ⟨hg58, hg58, trivial, trivial, trivial, trivial, trivial⟩ rfl ?_
            refine WD_all [7] (n := 32) (by kernel_rfl) rfl ?_
            refine WM_call [] Try.f36 rfl rfl (by kernel_rfl) rfl rfl (by kernel_rfl) (spec_inRange_ok ((x1.getD i2.toNat dnod).parent) 0 (w64 (i2 - 1))) (trivial) rfl (And.intro rfl (trivial)) ?_
            refine WD_takeK [8] [0, 1, 36] [0, 1, 36] (φ := True) (ls' := #[true, true, true, true, true, true, true, true, true, false, false, false, false, false, false, false, false, false, false, false, false, false, false, false, false, false, false, false, false, false, false, false, false, false, false, false, false, false, false, false]) (Ts' := [(0, .one (.e (.sl 0 0 x1.length))), (1, I i2), (36, B (spec_inRange ((x1.getD i2.toNat dnod).parent) 0 (w64 (i2 - 1))))]) (st' := ⟨[(0, .one (.e (.sl 0 0 x1.length))), (1, I i2), (36, B (spec_inRange ((x1.getD i2.toNat dnod).parent) 0 (w64 (i2 - 1))))], [.row .nod x1 false]⟩) (n2 := 31) (by kernel_rfl) trivial rfl ?_
            refine WD_known 36 true rfl rfl hb59 ?_
            refine WD_takeK [9, 10, 11, 12, 13] [0, 1, 36, 41] [0, 1, 36, 41] (φ := ((0 ≤ i2 ∧ i2 < ((x1.length : Nat) : Int)) ∧ (0 ≤ i2 ∧ i2 < ((x1.length : Nat) : Int)) ∧ (True ∧ True ∧ True))) (ls' := #[true, true, true, true, true, true, true, true, true, true, true, true, true, true, false, false, false, false, false, false, false, false, false, false, false, false, false, false, false, false, false, false, false, false, false, false, false, false, false, false]) (Ts' := [(0, .one (.e (.sl 0 0 x1.length))), (1, I i2), (36, B true), (41, S ((x1.getD i2.toNat dnod).name))]) (st' := ⟨[(0, .one (.e (.sl 0 0 x1.length))), (1, I i2), (36, B true), (41, S ((x1.getD i2.toNat dnod).name))], [.row .nod x1 false]⟩) (n2 := 26) (by kernel_rfl) ⟨hg60, hg60, trivial, trivial, trivial⟩ rfl ?_
            refine WD_all [14] (n := 25) (by kernel_rfl) rfl ?_
            refine WM_call [] Try.f49 rfl rfl (by kernel_rfl) rfl rfl (by kernel_rfl) (spec_validName_ok n ((x1.getD i2.toNat dnod).name) b61 hc62) (trivial) rfl (And.intro rfl (trivial)) ?_
            refine WD_takeK [15, 16] [0, 1, 44] [0, 1, 44] (φ := True) (ls' := #[true, true, true, true, true, true, true, true, true, true, true, true, true, true, true, true, true, false, false, false, false, false, false, false, false, false, false, false, false, false, false, false, false, false, false, false, false, false, false, false]) (Ts' := [(0, .one (.e (.sl 0 0 x1.length))), (1, I i2), (44, B b61)]) (st' := ⟨[(0, .one (.e (.sl 0 0 x1.length))), (1, I i2), (44, B b61)], [.row .nod x1 false]⟩) (n2 := 23) (by kernel_rfl) trivial rfl ?_
            refine WD_known 44 false rfl rfl hb63 ?_
            refine WD_takeK [17, 18, 19, 20, 21, 22, 23, 24, 25, 26, 27, 28, 29, 30, 31, 32, 33, 34, 35, 36, 37, 38, 39] [4] [4] (φ := True) (ls' := #[true, true, true, true, true, true, true, true, true, true, true, true, true, true, true, true, true, true, true, true, true, true, true, true, true, true, true, true, true, true, true, true, true, true, true, true, true, true, true, true]) (Ts' := [(4, B false)]) (st' := ⟨[(4, B false)], [.row .nod x1 false]⟩) (n2 := 0) (by kernel_rfl) trivial rfl ?_
            exact WD_done [0] [4] (st' := ⟨[(4, B false)], [.row .nod x1 false]⟩) (by kernel_rfl) (by kernel_rfl) (And.intro rfl (by cases hv73; rfl))
        · refine W_draw [] false (by kernel_rfl) (by kernel_rfl) ?_
          refine WD_takeK [0, 1, 2, 3, 4, 5, 6] [0, 1, 32, 34] [0, 1, 32, 34] (φ := ((0 ≤ i2 ∧ i2 < ((x1.length : Nat) : Int)) ∧ (0 ≤ i2 ∧ i2 < ((x1.length : Nat) : Int)) ∧ (True ∧ True ∧ (True ∧ True ∧ True)))) (ls' := #[true, true, true, true, true, true, true, false, false, false, false, false, false, false, false, false, false, false, false, false, false, false, false, false, false, false, false, false, false, false, false, false, false, false, false, false, false, false, false, false]) (Ts' := [(0, .one (.e (.sl 0 0 x1.length))), (1, I i2), (32, I ((x1.getD i2.toNat dnod).parent)), (34, I (w64 (i2 - 1)))]) (st' := ⟨[(0, .one (.e (.sl 0 0 x1.length))), (1, I i2), (32, I ((x1.getD i2.toNat dnod).parent)), (34, I (w64 (i2 - 1)))], [.row .nod x1 false]⟩) (n2 := 33) (by kernel_rfl) ⟨hg58, hg58, trivial, trivial, trivial, trivial, trivial⟩ rfl ?_
          refine WD_all [7] (n := 32) (by kernel_rfl) rfl ?_
          refine WM_call [] Try.f36 rfl rfl (by kernel_rfl) rfl rfl (by kernel_rfl) (spec_inRange_ok ((x1.getD i2.toNat dnod).parent) 0 (w64 (i2 - 1))) (trivial) rfl (And.intro rfl (trivial)) ?_
          refine WD_takeK [8] [0, 1, 36] [0, 1, 36] (φ := True) (ls' := #[true, true, true, true, true, true, true, true, true, false, false, false, false, false, false, false, false, false, false, false, false, false, false, false, false, false, false, false, false, false, false, false, false, false, false, false, false, false, false, false]) (Ts' := [(0, .one (.e (.sl 0 0 x1.length))), (1, I i2), (36, B (spec_inRange ((x1.getD i2.toNat dnod).parent) 0 (w64 (i2 - 1))))]) (st' := ⟨[(0, .one (.e (.sl 0 0 x1.length))), (1, I i2), (36, B (spec_inRange ((x1.getD i2.toNat dnod).parent) 0 (w64 (i2 - 1))))], [.row .nod x1 false]⟩) (n2 := 31) (by kernel_rfl) trivial rfl ?_
          refine WD_known 36 false rfl rfl hb59 ?_
          refine WD_takeK [9, 10, 11, 12, 13, 14, 15, 16, 17, 18, 19, 20, 21, 22, 23, 24, 25, 26, 27, 28, 29, 30, 31, 32, 33, 34, 35, 36, 37, 38, 39] [4] [4] (φ := True) (ls' := #[true, true, true, true, true, true, true, true, true, true, true, true, true, true, true, true, true, true, true, true, true, true, true, true, true, true, true, true, true, true, true, true, true, true, true, true, true, true, true, true]) (Ts' := [(4, B false)]) (st' := ⟨[(4, B false)], [.row .nod x1 false]⟩) (n2 := 0) (by kernel_rfl) trivial rfl ?_
          exact WD_done [0] [4] (st' := ⟨[(4, B false)], [.row .nod x1 false]⟩) (by kernel_rfl) (by kernel_rfl) (And.intro rfl (by cases hv73; rfl))
      · rintro _ _ ⟨rfl, rfl⟩
        refine thenS_n ?_
        refine W_ret ?_
        cases h
        exact ⟨[0], True, by kernel_rfl, trivial⟩

/- spec.validTree -/
def spec_validTree_L1 (x1 : List Nod) : Nat → Int → Option ((Unit) ⊕ (Unit))
| 0, _ => none
| n + 1, i52 =>
 iteO (decide (i52 < ((x1.length : Nat) : Int)))
 (bindO (spec_validNode n x1 i52) fun b71 =>
 iteO (!b71)
 (some (.inl ()))
 (spec_validTree_L1 x1 n (w64 (i52 + 1))))
 (some (.inr ()))

theorem spec_validTree_L1_ok (w : World) (X : Nat → Prop) (θ : List Loc) (x1 : List Nod) (v : (Unit) ⊕ (Unit)) : ∀ (n : Nat) (i52 : Int), spec_validTree_L1 x1 n i52 = some v → WL EE ⟨w, X, θ, 17, 1⟩ (subC [1, 0, 1, 4, 4] (bodyC Try.f17)) (fun (e : Exit) (s : St) => (match v with | (.inl _) => e = .ret ∧ s = ⟨[(2, B false)], [.row .nod x1 false]⟩ | (.inr _) => e = .exit 0 ∧ s = ⟨[(0, .one (.e (.sl 0 0 x1.length)))], [.row .nod x1 false]⟩ : Prop)) ⟨[(0, .one (.e (.sl 0 0 x1.length))), (3, I i52)], [.row .nod x1 false]⟩ := by
  intro n
  induction n with
  | zero => intro _ h; exact none_e h
  | succ n ih =>
    intro i52 h
    rw [spec_validTree_L1] at h
    refine WL_round ?_
    refine W_seq ?_
    refine W_seq ?_
    refine W_region ?_
    refine WO_step 4 [0] [0, 3, 7] (True ∧ (True ∧ True)) ⟨[(0, .one (.e (.sl 0 0 x1.length))), (3, I i52), (7, B (decide (i52 < ((x1.length : Nat) : Int))))], [.row .nod x1 false]⟩ (by kernel_rfl) ⟨trivial, trivial, trivial⟩ ?_
    refine WO_nil rfl ?_
    refine thenS_n ?_
    refine iteO_e h (fun hb66 h => W_true rfl hb66 ?_) (fun hb66 h => W_false rfl hb66 ?_)
    · refine W_sub [0] [0, 3] (st' := ⟨[(0, .one (.e (.sl 0 0 x1.length))), (3, I i52)], [.row .nod x1 false]⟩) (by kernel_rfl) ?_
      refine W_skip ?_
      refine thenS_n ?_
      refine W_seq ?_
      refine W_block ?_
      refine W_seq ?_
      refine W_region ?_
      refine WO_step 2 [0] [0, 3, 10, 11] True ⟨[(0, .one (.e (.sl 0 0 x1.length))), (3, I i52), (10, .one (.e (.sl 0 0 x1.length))), (11, I i52)], [.row .nod x1 false]⟩ (by kernel_rfl) trivial ?_
      refine bindO_e h (fun b71 hc72 h => ?_)
      refine WO_call [.ro 0] Try.f35 rfl rfl rfl (by kernel_rfl) rfl rfl (by kernel_rfl) (spec_validNode_ok n x1 i52 b71 hc72) (And.intro (And.intro rfl rfl) (trivial)) rfl ?_
      refine WO_step 1 [0] [0, 3, 13] True ⟨[(0, .one (.e (.sl 0 0 x1.length))), (3, I i52), (13, B (!b71))], [.row .nod x1 false]⟩ (by kernel_rfl) trivial ?_
      refine WO_nil rfl ?_
      refine thenS_n ?_
      refine iteO_e h (fun hb74 h => W_true rfl hb74 ?_) (fun hb74 h => W_false rfl hb74 ?_)
      · refine W_seq ?_
        refine W_region ?_
        refine WO_step 1 [0] [2] True ⟨[(2, B false)], [.row .nod x1 false]⟩ (by kernel_rfl) trivial ?_
        refine WO_nil rfl ?_
        refine thenS_n ?_
        refine W_ret ?_
        refine blockS_r ?_
        refine thenS_r ?_
        refine thenS_r ?_
        cases h
        exact And.intro rfl rfl
      · refine W_sub [0] [0, 3] (st' := ⟨[(0, .one (.e (.sl 0 0 x1.length))), (3, I i52)], [.row .nod x1 false]⟩) (by kernel_rfl) ?_
        refine W_skip ?_
        refine blockS_n ?_
        refine thenS_n ?_
        refine W_region ?_
        refine WO_step 3 [0] [0, 3] (True ∧ True) ⟨[(0, .one (.e (.sl 0 0 x1.length))), (3, I (w64 (i52 + 1)))], [.row .nod x1 false]⟩ (by kernel_rfl) ⟨trivial, trivial⟩ ?_
        refine WO_nil rfl ?_
        refine thenS_n ?_
        exact ih _ h
    · refine W_sub [0] [0] (st' := ⟨[(0, .one (.e (.sl 0 0 x1.length)))], [.row .nod x1 false]⟩) (by kernel_rfl) ?_
      refine W_exit ?_
      refine thenS_e ?_
      refine thenS_e ?_
      cases h
      exact And.intro rfl rfl

def spec_validTree (n : Nat) (x1 : List Nod) : Option (Bool) :=
 bindO (spec_validTree_L1 x1 n 0) fun v75 =>
 match v75 with
 | (.inl _) => (some false)
 | (.inr _) => (some (spec_inRange ((x1.length : Nat) : Int) 1 12))


theorem spec_validTree_ok (n : Nat) (x1 : List Nod) (b38 : Bool) (h : spec_validTree n x1 = some b38) : FOk EE 17 [.one (.e (.sl 0 0 x1.length))] [.row .nod x1 false] (B b38) [.row .nod x1 false] := by
  unfold spec_validTree at h
  refine FOk_of_W 17 1 Try.func17 rfl rfl (Nat.le_of_ble_eq_true rfl) rfl (fun w X θ => ?_)
  refine W_seq ?_
  refine W_region ?_
  refine WO_step 1 [0] [0] True ⟨[(0, .one (.e (.sl 0 0 x1.length)))], [.row .nod x1 false]⟩ (by kernel_rfl) trivial ?_
  refine WO_nil rfl ?_
  refine thenS_n ?_
  refine W_seq ?_
  refine W_seq ?_
  refine W_region ?_
  refine WO_step 1 [0] [0, 3] True ⟨[(0, .one (.e (.sl 0 0 x1.length))), (3, I 0)], [.row .nod x1 false]⟩ (by kernel_rfl) trivial ?_
  refine WO_nil rfl ?_
  refine thenS_n ?_
  refine W_block ?_
  refine W_loop ?_
  refine bindO_e h (fun v75 hv75 h => ?_)
  refine WL_cut (spec_validTree_L1_ok w X θ x1 v75 n 0 hv75) ?_
  rcases v75 with _ | _
  · rintro _ _ ⟨rfl, rfl⟩
    refine blockS_r ?_
    refine thenS_r ?_
    cases h
    exact ⟨[0], True, by kernel_rfl, trivial⟩
  · rintro _ _ ⟨rfl, rfl⟩
    refine blockS_y ?_
    refine thenS_n ?_
    refine W_seq ?_
    refine W_region ?_
    refine WO_step 2 [0] [15] (True ∧ True) ⟨[(15, I ((x1.length : Nat) : Int))], [.row .nod x1 false]⟩ (by kernel_rfl) ⟨trivial, trivial⟩ ?_
    refine WO_call [] Try.f36 rfl rfl rfl (by kernel_rfl) rfl rfl (by kernel_rfl) (spec_inRange_ok ((x1.length : Nat) : Int) 1 12) (trivial) rfl ?_
    refine WO_step 1 [0] [2] True ⟨[(2, B (spec_inRange ((x1.length : Nat) : Int) 1 12))], [.row .nod x1 false]⟩ (by kernel_rfl) trivial ?_
    refine WO_nil rfl ?_
    refine thenS_n ?_
    refine W_ret ?_
    cases h
    exact ⟨[0], True, by kernel_rfl, trivial⟩

/- spec.kids -/
def spec_kids_L1 (x1 : List Nod) (i2 : Int) : Nat → (List Int) → Int → Option ((List Int))
| 0, _, _ => none
| n + 1, x68, i69 =>
 iteO (decide (i69 < ((x1.length : Nat) : Int)))
 (guardO (0 ≤ i69 ∧ i69 < ((x1.length : Nat) : Int)) <|
 bindO (iteO (decide (((x1.getD i69.toNat dnod).parent) = i2))
 (guardO (0 = 0 ∧ x68.length = x68.length ∧ x68.length + (([i69].drop 0).take ([i69].length)).length ≤ 1099511627776) <|
 some (x68 ++ (([i69].drop 0).take ([i69].length))))
 (some x68)) fun x96 =>
 spec_kids_L1 x1 i2 n x96 (w64 (i69 + 1)))
 (some x68)

theorem spec_kids_L1_ok (w : World) (X : Nat → Prop) (θ : List Loc) (x1 : List Nod) (i2 : Int) (x84 : (List Int)) : ∀ (n : Nat) (x68 : List Int) (i69 : Int), spec_kids_L1 x1 i2 n x68 i69 = some x84 → WL EE ⟨w, X, θ, 26, 1⟩ (subC [1, 1, 0, 1, 4, 4] (bodyC Try.f52)) (fun (e : Exit) (s : St) => e = .exit 0 ∧ s = ⟨[(5, .one (.e (.sl 1 0 x84.length)))], [.row .nod x1 false, .row .int x84 true]⟩) ⟨[(0, .one (.e (.sl 0 0 x1.length))), (1, I i2), (5, .one (.e (.sl 1 0 x68.length))), (6, I i69)], [.row .nod x1 false, .row .int x68 true]⟩ := by
  intro n
  induction n with
  | zero => intro _ _ h; exact none_e h
  | succ n ih =>
    intro x68 i69 h
    rw [spec_kids_L1] at h
    refine WL_round ?_
    refine W_seq ?_
    refine W_seq ?_
    refine W_region ?_
    refine WO_step 4 [0, 1] [0, 1, 5, 6, 11] (True ∧ (True ∧ True)) ⟨[(0, .one (.e (.sl 0 0 x1.length))), (1, I i2), (5, .one (.e (.sl 1 0 x68.length))), (6, I i69), (11, B (decide (i69 < ((x1.length : Nat) : Int))))], [.row .nod x1 false, .row .int x68 true]⟩ (by kernel_rfl) ⟨trivial, trivial, trivial⟩ ?_
    refine WO_nil rfl ?_
    refine thenS_n ?_
    refine iteO_e h (fun hb87 h => W_true rfl hb87 ?_) (fun hb87 h => W_false rfl hb87 ?_)
    · refine W_sub [0, 1] [0, 1, 5, 6] (st' := ⟨[(0, .one (.e (.sl 0 0 x1.length))), (1, I i2), (5, .one (.e (.sl 1 0 x68.length))), (6, I i69)], [.row .nod x1 false, .row .int x68 true]⟩) (by kernel_rfl) ?_
      refine W_skip ?_
      refine thenS_n ?_
      refine W_seq ?_
      refine W_block ?_
      refine W_seq ?_
      refine W_region ?_
      refine guardO_e h (fun hg93 h => ?_)
      refine WO_step 7 [0, 1] [0, 1, 5, 6, 20] ((0 ≤ i69 ∧ i69 < ((x1.length : Nat) : Int)) ∧ (True ∧ (True ∧ True))) ⟨[(0, .one (.e (.sl 0 0 x1.length))), (1, I i2), (5, .one (.e (.sl 1 0 x68.length))), (6, I i69), (20, B (decide (((x1.getD i69.toNat dnod).parent) = i2)))], [.row .nod x1 false, .row .int x68 true]⟩ (by kernel_rfl) ⟨hg93, trivial, trivial, trivial⟩ ?_
      refine WO_nil rfl ?_
      refine thenS_n ?_
      refine bindO_e h (fun x96 hx96 h => ?_)
      refine W_cut (Q' := fun (e : Exit) (s : St) => e = .normal ∧ s = ⟨[(0, .one (.e (.sl 0 0 x1.length))), (1, I i2), (5, .one (.e (.sl 1 0 x96.length))), (6, I i69)], [.row .nod x1 false, .row .int x96 true]⟩) ?_ ?_
      · refine iteO_e hx96 (fun hb98 hx96 => W_true rfl hb98 ?_) (fun hb98 hx96 => W_false rfl hb98 ?_)
        · refine W_region ?_
          refine guardO_e hx96 (fun hg99 hx96 => ?_)
          refine WO_step 5 [0, 3] [0, 1, 5, 6] ((0 = 0 ∧ x68.length = x68.length ∧ x68.length + (([i69].drop 0).take ([i69].length)).length ≤ 1099511627776) ∧ True) ⟨[(0, .one (.e (.sl 0 0 x1.length))), (1, I i2), (5, .one (.e (.sl 1 0 ((x68 ++ (([i69].drop 0).take ([i69].length))).length)))), (6, I i69)], [.row .nod x1 false, .row .int (x68 ++ (([i69].drop 0).take ([i69].length))) true]⟩ (by kernel_rfl) ⟨hg99, trivial⟩ ?_
          refine WO_nil rfl ?_
          cases hx96
          exact And.intro rfl rfl
        · refine W_sub [0, 1] [0, 1, 5, 6] (st' := ⟨[(0, .one (.e (.sl 0 0 x1.length))), (1, I i2), (5, .one (.e (.sl 1 0 x68.length))), (6, I i69)], [.row .nod x1 false, .row .int x68 true]⟩) (by kernel_rfl) ?_
          refine W_skip ?_
          cases hx96
          exact And.intro rfl rfl
      · rintro _ _ ⟨rfl, rfl⟩
        refine blockS_n ?_
        refine thenS_n ?_
        refine W_region ?_
        refine WO_step 3 [0, 1] [0, 1, 5, 6] (True ∧ True) ⟨[(0, .one (.e (.sl 0 0 x1.length))), (1, I i2), (5, .one (.e (.sl 1 0 x96.length))), (6, I (w64 (i69 + 1)))], [.row .nod x1 false, .row .int x96 true]⟩ (by kernel_rfl) ⟨trivial, trivial⟩ ?_
        refine WO_nil rfl ?_
        refine thenS_n ?_
        exact ih _ _ h
    · refine W_sub [0, 1] [5] (st' := ⟨[(5, .one (.e (.sl 1 0 x68.length)))], [.row .nod x1 false, .row .int x68 true]⟩) (by kernel_rfl) ?_
      refine W_exit ?_
      refine thenS_e ?_
      refine thenS_e ?_
      cases h
      exact And.intro rfl rfl

def spec_kids (n : Nat) (x1 : List Nod) (i2 : Int) : Option ((List Int)) :=
 bindO (spec_kids_L1 x1 i2 n ([] : List Int) 1) fun x84 =>
 some x84

theorem spec_kids_ok (n : Nat) (x1 : List Nod) (i2 : Int) (x49 : List Int) (h : spec_kids n x1 i2 = some x49) : FOk EE 52 [.one (.e (.sl 0 0 x1.length)), I i2] [.row .nod x1 false] (.one (.e (.sl 1 0 x49.length))) [.row .nod x1 false, .row .int x49 true] := by
  unfold spec_kids at h
  refine FOk_of_W 26 1 Try.func52 rfl rfl (Nat.le_of_ble_eq_true rfl) rfl (fun w X θ => ?_)
  refine W_seq ?_
  refine W_region ?_
  refine WO_step 1 [0] [0, 1] True ⟨[(0, .one (.e (.sl 0 0 x1.length))), (1, I i2)], [.row .nod x1 false]⟩ (by kernel_rfl) trivial ?_
  refine WO_nil rfl ?_
  refine thenS_n ?_
  refine W_seq ?_
  refine W_region ?_
  refine WO_step 2 [0, 1] [0, 1, 5] True ⟨[(0, .one (.e (.sl 0 0 x1.length))), (1, I i2), (5, .one (.e (.sl 1 0 (([] : List Int).length))))], [.row .nod x1 false, .row .int ([] : List Int) true]⟩ (by kernel_rfl) trivial ?_
  refine WO_nil rfl ?_
  refine thenS_n ?_
  refine W_seq ?_
  refine W_seq ?_
  refine W_region ?_
  refine WO_step 1 [0, 1] [0, 1, 5, 6] True ⟨[(0, .one (.e (.sl 0 0 x1.length))), (1, I i2), (5, .one (.e (.sl 1 0 (([] : List Int).length)))), (6, I 1)], [.row .nod x1 false, .row .int ([] : List Int) true]⟩ (by kernel_rfl) trivial ?_
  refine WO_nil rfl ?_
  refine thenS_n ?_
  refine W_block ?_
  refine W_loop ?_
  refine bindO_e h (fun x84 hx84 h => ?_)
  refine WL_cut (spec_kids_L1_ok w X θ x1 i2 x84 n ([] : List Int) 1 hx84) ?_
  rintro _ _ ⟨rfl, rfl⟩
  refine blockS_y ?_
  refine thenS_n ?_
  refine W_seq ?_
  refine W_region ?_
  refine WO_step 2 [0, 1] [4] True ⟨[(4, .one (.e (.sl 1 0 x84.length)))], [.row .nod x1 false, .row .int x84 true]⟩ (by kernel_rfl) trivial ?_
  refine WO_nil rfl ?_
  refine thenS_n ?_
  refine W_ret ?_
  cases h
  exact ⟨[0, 1], True, by kernel_rfl, trivial⟩

/- spec.walk -/
def spec_walk_L2 (rec : (List Nod) → Int → Option ((List Int))) (x1 : List Nod) (i2 : Int) (i463 : Int) : Nat → (List Int) → Int → Option ((List Int))
| 0, _, _ => none
| n + 1, x633, i634 =>
 bindO (iteO (decide (0 < i634))
 (guardO (0 ≤ i634 ∧ i634 < ((x633.length : Nat) : Int)) <|
 guardO (0 ≤ (x633.getD i634.toNat 0) ∧ (x633.getD i634.toNat 0) < ((x1.length : Nat) : Int)) <|
 guardO (0 ≤ (w64 (i634 - 1)) ∧ (w64 (i634 - 1)) < ((x633.length : Nat) : Int)) <|
 guardO (0 ≤ (x633.getD ((w64 (i634 - 1)).toNat) 0) ∧ (x633.getD ((w64 (i634 - 1)).toNat) 0) < ((x1.length : Nat) : Int)) <|
 some (Op.bytesLess ((x1.getD ((x633.getD i634.toNat 0).toNat) dnod).name) ((x1.getD ((x633.getD ((w64 (i634 - 1)).toNat) 0).toNat) dnod).name)))
 (some false)) fun b661 =>
 iteO b661
 (guardO (0 ≤ i634 ∧ i634 < ((x633.length : Nat) : Int)) <|
 guardO (0 ≤ (w64 (i634 - 1)) ∧ (w64 (i634 - 1)) < ((x633.length : Nat) : Int)) <|
 guardO (0 ≤ i634 ∧ i634 < ((x633.length : Nat) : Int)) <|
 guardO (0 ≤ (w64 (i634 - 1)) ∧ (w64 (i634 - 1)) < (((x633.set i634.toNat (x633.getD ((w64 (i634 - 1)).toNat) 0)).length : Nat) : Int)) <|
 spec_walk_L2 rec x1 i2 i463 n ((x633.set i634.toNat (x633.getD ((w64 (i634 - 1)).toNat) 0)).set ((w64 (i634 - 1)).toNat) (x633.getD i634.toNat 0)) (w64 (i634 - 1)))
 (some x633)

theorem spec_walk_L2_ok (rec : (List Nod) → Int → Option ((List Int))) (hrec : ∀ (x1 : List Nod) (i2 : Int) (x3 : List Int), rec x1 i2 = some x3 → FOk EE 37 [.one (.e (.sl 0 0 x1.length)), I i2] [.row .nod x1 false] (.one (.e (.sl 1 0 x3.length))) [.row .nod x1 false, .row .int x3 true]) (w : World) (X : Nat → Prop) (θ : List Loc) (x1 : List Nod) (i2 : Int) (i463 : Int) (x654 : (List Int)) : ∀ (n : Nat) (x633 : List Int) (i634 : Int), spec_walk_L2 rec x1 i2 i463 n x633 i634 = some x654 → WL EE ⟨w, X, θ, 79, 1⟩ (subC [1, 1, 1, 0, 1, 4, 4, 1, 0, 4, 1, 4, 4] (bodyC Try.f37)) (fun (e : Exit) (s : St) => e = .exit 2 ∧ s = ⟨[(0, .one (.e (.sl 0 0 x1.length))), (5, .one (.e (.sl 1 0 ([i2].length)))), (6, .one (.e (.sl 2 0 x654.length))), (7, I i463)], [.row .nod x1 false, .row .int [i2] true, .row .int x654 true]⟩) ⟨[(0, .one (.e (.sl 0 0 x1.length))), (5, .one (.e (.sl 1 0 ([i2].length)))), (6, .one (.e (.sl 2 0 x633.length))), (7, I i463), (8, I i634)], [.row .nod x1 false, .row .int [i2] true, .row .int x633 true]⟩ := by
  intro n
  induction n with
  | zero => intro _ _ h; exact none_e h
  | succ n ih =>
    intro x633 i634 h
    rw [spec_walk_L2] at h
    refine WL_round ?_
    refine W_seq ?_
    refine W_seq ?_
    refine bindO_e h (fun b661 hv662 h => ?_)
    refine W_cut (Q' := fun (e : Exit) (s : St) => e = .normal ∧ s = ⟨[(0, .one (.e (.sl 0 0 x1.length))), (5, .one (.e (.sl 1 0 ([i2].length)))), (6, .one (.e (.sl 2 0 x633.length))), (7, I i463), (8, I i634), (44, B b661)], [.row .nod x1 false, .row .int [i2] true, .row .int x633 true]⟩) ?_ ?_
    · refine iteO_e hv662 (fun hb656 hv662 => ?_) (fun hb656 hv662 => ?_)
      · refine guardO_e hv662 (fun hg657 hv662 => ?_)
        refine guardO_e hv662 (fun hg658 hv662 => ?_)
        refine guardO_e hv662 (fun hg659 hv662 => ?_)
        refine guardO_e hv662 (fun hg660 hv662 => ?_)
        refine W_draw [] true (by kernel_rfl) (by kernel_rfl) ?_
        refine WD_takeK [0, 1, 2] [0, 5, 6, 7, 8, 25] [0, 5, 6, 7, 8, 25] (φ := (True ∧ True ∧ True)) (ls' := #[true, true, true, false, false, false, false, false, false, false, false, false, false, false, false, false, false, false, false, false, false, false]) (Ts' := [(0, .one (.e (.sl 0 0 x1.length))), (5, .one (.e (.sl 1 0 ([i2].length)))), (6, .one (.e (.sl 2 0 x633.length))), (7, I i463), (8, I i634), (25, B (decide (0 < i634)))]) (st' := ⟨[(0, .one (.e (.sl 0 0 x1.length))), (5, .one (.e (.sl 1 0 ([i2].length)))), (6, .one (.e (.sl 2 0 x633.length))), (7, I i463), (8, I i634), (25, B (decide (0 < i634)))], [.row .nod x1 false, .row .int [i2] true, .row .int x633 true]⟩) (n2 := 19) (by kernel_rfl) ⟨trivial, trivial, trivial⟩ rfl ?_
        refine WD_known 25 true rfl rfl hb656 ?_
        refine WD_takeK [3, 4, 5, 6, 7, 8, 9, 10, 11, 12, 13, 14, 15, 16, 17, 18, 19, 20, 21] [0, 5, 6, 7, 8, 44] [0, 5, 6, 7, 8, 44] (φ := ((0 ≤ i634 ∧ i634 < ((x633.length : Nat) : Int)) ∧ (0 ≤ i634 ∧ i634 < ((x633.length : Nat) : Int)) ∧ (True ∧ True ∧ ((0 ≤ (x633.getD i634.toNat 0) ∧ (x633.getD i634.toNat 0) < ((x1.length : Nat) : Int)) ∧ (0 ≤ (x633.getD i634.toNat 0) ∧ (x633.getD i634.toNat 0) < ((x1.length : Nat) : Int)) ∧ (True ∧ True ∧ (True ∧ True ∧ ((0 ≤ (w64 (i634 - 1)) ∧ (w64 (i634 - 1)) < ((x633.length : Nat) : Int)) ∧ (0 ≤ (w64 (i634 - 1)) ∧ (w64 (i634 - 1)) < ((x633.length : Nat) : Int)) ∧ (True ∧ True ∧ ((0 ≤ (x633.getD ((w64 (i634 - 1)).toNat) 0) ∧ (x633.getD ((w64 (i634 - 1)).toNat) 0) < ((x1.length : Nat) : Int)) ∧ (0 ≤ (x633.getD ((w64 (i634 - 1)).toNat) 0) ∧ (x633.getD ((w64 (i634 - 1)).toNat) 0) < ((x1.length : Nat) : Int)) ∧ (True ∧ True ∧ (True ∧ True ∧ True))))))))))) (ls' := #[true, true, true, true, true, true, true, true, true, true, true, true, true, true, true, true, true, true, true, true, true, true]) (Ts' := [(0, .one (.e (.sl 0 0 x1.length))), (5, .one (.e (.sl 1 0 ([i2].length)))), (6, .one (.e (.sl 2 0 x633.length))), (7, I i463), (8, I i634), (44, B (Op.bytesLess ((x1.getD ((x633.getD i634.toNat 0).toNat) dnod).name) ((x1.getD ((x633.getD ((w64 (i634 - 1)).toNat) 0).toNat) dnod).name)))]) (st' := ⟨[(0, .one (.e (.sl 0 0 x1.length))), (5, .one (.e (.sl 1 0 ([i2].length)))), (6, .one (.e (.sl 2 0 x633.length))), (7, I i463), (8, I i634), (44, B (Op.bytesLess ((x1.getD ((x633.getD i634.toNat 0).toNat) dnod).name) ((x1.getD ((x633.getD ((w64 (i634 - 1)).toNat) 0).toNat) dnod).name)))], [.row .nod x1 false, .row .int [i2] true, .row .int x633 true]⟩) (n2 := 0) (by kernel_rfl) ⟨hg657, hg657, trivial, trivial, hg658, hg658, trivial, trivial, trivial, trivial, hg659, hg659, trivial, trivial, hg660, hg660, trivial, trivial, trivial, trivial, trivial⟩ rfl ?_
        exact WD_done [0, 1, 2] [0, 5, 6, 7, 8, 44] (st' := ⟨[(0, .one (.e (.sl 0 0 x1.length))), (5, .one (.e (.sl 1 0 ([i2].length)))), (6, .one (.e (.sl 2 0 x633.length))), (7, I i463), (8, I i634), (44, B (Op.bytesLess ((x1.getD ((x633.getD i634.toNat 0).toNat) dnod).name) ((x1.getD ((x633.getD ((w64 (i634 - 1)).toNat) 0).toNat) dnod).name)))], [.row .nod x1 false, .row .int [i2] true, .row .int x633 true]⟩) (by kernel_rfl) (by kernel_rfl) (And.intro rfl (by cases hv662; rfl))
      · refine W_draw [] true (by kernel_rfl) (by kernel_rfl) ?_
        refine WD_takeK [0, 1, 2] [0, 5, 6, 7, 8, 25] [0, 5, 6, 7, 8, 25] (φ := (True ∧ True ∧ True)) (ls' := #[true, true, true, false, false, false, false, false, false, false, false, false, false, false, false, false, false, false, false, false, false, false]) (Ts' := [(0, .one (.e (.sl 0 0 x1.length))), (5, .one (.e (.sl 1 0 ([i2].length)))), (6, .one (.e (.sl 2 0 x633.length))), (7, I i463), (8, I i634), (25, B (decide (0 < i634)))]) (st' := ⟨[(0, .one (.e (.sl 0 0 x1.length))), (5, .one (.e (.sl 1 0 ([i2].length)))), (6, .one (.e (.sl 2 0 x633.length))), (7, I i463), (8, I i634), (25, B (decide (0 < i634)))], [.row .nod x1 false, .row .int [i2] true, .row .int x633 true]⟩) (n2 := 19) (by kernel_rfl) ⟨trivial, trivial, trivial⟩ rfl ?_
        refine WD_known 25 false rfl rfl hb656 ?_
        refine WD_takeK [3, 4, 5, 6, 7, 8, 9, 10, 11, 12, 13, 14, 15, 16, 17, 18, 19, 20, 21] [0, 5, 6, 7, 8, 44] [0, 5, 6, 7, 8, 44] (φ := True) (ls' := #[true, true, true, true, true, true, true, true, true, true, true, true, true, true, true, true, true, true, true, true, true, true]) (Ts' := [(0, .one (.e (.sl 0 0 x1.length))), (5, .one (.e (.sl 1 0 ([i2].length)))), (6, .one (.e (.sl 2 0 x633.length))), (7, I i463), (8, I i634), (44, B false)]) (st' := ⟨[(0, .one (.e (.sl 0 0 x1.length))), (5, .one (.e (.sl 1 0 ([i2].length)))), (6, .one (.e (.sl 2 0 x633.length))), (7, I i463), (8, I i634), (44, B false)], [.row .nod x1 false, .row .int [i2] true, .row .int x633 true]⟩) (n2 := 0) (by kernel_rfl) trivial rfl ?_
        exact WD_done [0, 1, 2] [0, 5, 6, 7, 8, 44] (st' := ⟨[(0, .one (.e (.sl 0 0 x1.length))), (5, .one (.e (.sl 1 0 ([i2].length)))), (6, .one (.e (.sl 2 0 x633.length))), (7, I i463), (8, I i634), (44, B false)], [.row .nod x1 false, .row .int [i2] true, .row .int x633 true]⟩) (by kernel_rfl) (by kernel_rfl) (And.intro rfl (by cases hv662; rfl))
    · rintro _ _ ⟨rfl, rfl⟩
      refine thenS_n ?_
      refine iteO_e h (fun hb664 h => W_true rfl hb664 ?_) (fun hb664 h => W_false rfl hb664 ?_)
      · refine W_sub [0, 1, 2] [0, 5, 6, 7, 8] (st' := ⟨[(0, .one (.e (.sl 0 0 x1.length))), (5, .one (.e (.sl 1 0 ([i2].length)))), (6, .one (.e (.sl 2 0 x633.length))), (7, I i463), (8, I i634)], [.row .nod x1 false, .row .int [i2] true, .row .int x633 true]⟩) (by kernel_rfl) ?_
        refine W_skip ?_
        refine thenS_n ?_
        refine W_seq ?_
        refine W_block ?_
        refine W_seq ?_
        refine W_region ?_
        refine guardO_e h (fun hg669 h => ?_)
        refine WO_step 5 [0, 1, 2] [0, 5, 6, 7, 8, 9] ((0 ≤ i634 ∧ i634 < ((x633.length : Nat) : Int)) ∧ (True ∧ True)) ⟨[(0, .one (.e (.sl 0 0 x1.length))), (5, .one (.e (.sl 1 0 ([i2].length)))), (6, .one (.e (.sl 2 0 x633.length))), (7, I i463), (8, I i634), (9, I (x633.getD i634.toNat 0))], [.row .nod x1 false, .row .int [i2] true, .row .int x633 true]⟩ (by kernel_rfl) ⟨hg669, trivial, trivial⟩ ?_
        refine WO_nil rfl ?_
        refine thenS_n ?_
        refine W_seq ?_
        refine W_region ?_
        refine guardO_e h (fun hg670 h => ?_)
        refine guardO_e h (fun hg671 h => ?_)
        refine WO_step 9 [0, 1, 2] [0, 5, 6, 7, 8, 9] (True ∧ ((0 ≤ (w64 (i634 - 1)) ∧ (w64 (i634 - 1)) < ((x633.length : Nat) : Int)) ∧ (True ∧ ((0 ≤ i634 ∧ i634 < ((x633.length : Nat) : Int)) ∧ (True ∧ True))))) ⟨[(0, .one (.e (.sl 0 0 x1.length))), (5, .one (.e (.sl 1 0 ([i2].length)))), (6, .one (.e (.sl 2 0 x633.length))), (7, I i463), (8, I i634), (9, I (x633.getD i634.toNat 0))], [.row .nod x1 false, .row .int [i2] true, .row .int (x633.set i634.toNat (x633.getD ((w64 (i634 - 1)).toNat) 0)) true]⟩ (by kernel_rfl) ⟨trivial, hg670, trivial, hg671, trivial, trivial⟩ ?_
        refine WO_eq (st' := ⟨[(0, .one (.e (.sl 0 0 x1.length))), (5, .one (.e (.sl 1 0 ([i2].length)))), (6, .one (.e (.sl 2 0 ((x633.set i634.toNat (x633.getD ((w64 (i634 - 1)).toNat) 0)).length)))), (7, I i463), (8, I i634), (9, I (x633.getD i634.toNat 0))], [.row .nod x1 false, .row .int [i2] true, .row .int (x633.set i634.toNat (x633.getD ((w64 (i634 - 1)).toNat) 0)) true]⟩) (by simp only [List.length_set]) ?_
        refine WO_nil rfl ?_
        refine thenS_n ?_
        refine W_region ?_
        refine guardO_e h (fun hg672 h => ?_)
        refine WO_step 6 [0, 1, 2] [0, 5, 6, 7, 8] (True ∧ ((0 ≤ (w64 (i634 - 1)) ∧ (w64 (i634 - 1)) < (((x633.set i634.toNat (x633.getD ((w64 (i634 - 1)).toNat) 0)).length : Nat) : Int)) ∧ (True ∧ True))) ⟨[(0, .one (.e (.sl 0 0 x1.length))), (5, .one (.e (.sl 1 0 ([i2].length)))), (6, .one (.e (.sl 2 0 ((x633.set i634.toNat (x633.getD ((w64 (i634 - 1)).toNat) 0)).length)))), (7, I i463), (8, I i634)], [.row .nod x1 false, .row .int [i2] true, .row .int ((x633.set i634.toNat (x633.getD ((w64 (i634 - 1)).toNat) 0)).set ((w64 (i634 - 1)).toNat) (x633.getD i634.toNat 0)) true]⟩ (by kernel_rfl) ⟨trivial, hg672, trivial, trivial⟩ ?_
        refine WO_eq (st' := ⟨[(0, .one (.e (.sl 0 0 x1.length))), (5, .one (.e (.sl 1 0 ([i2].length)))), (6, .one (.e (.sl 2 0 (((x633.set i634.toNat (x633.getD ((w64 (i634 - 1)).toNat) 0)).set ((w64 (i634 - 1)).toNat) (x633.getD i634.toNat 0)).length)))), (7, I i463), (8, I i634)], [.row .nod x1 false, .row .int [i2] true, .row .int ((x633.set i634.toNat (x633.getD ((w64 (i634 - 1)).toNat) 0)).set ((w64 (i634 - 1)).toNat) (x633.getD i634.toNat 0)) true]⟩) (by simp only [List.length_set]) ?_
        refine WO_nil rfl ?_
        refine blockS_n ?_
        refine thenS_n ?_
        refine W_region ?_
        refine WO_step 3 [0, 1, 2] [0, 5, 6, 7, 8] (True ∧ True) ⟨[(0, .one (.e (.sl 0 0 x1.length))), (5, .one (.e (.sl 1 0 ([i2].length)))), (6, .one (.e (.sl 2 0 (((x633.set i634.toNat (x633.getD ((w64 (i634 - 1)).toNat) 0)).set ((w64 (i634 - 1)).toNat) (x633.getD i634.toNat 0)).length)))), (7, I i463), (8, I (w64 (i634 - 1)))], [.row .nod x1 false, .row .int [i2] true, .row .int ((x633.set i634.toNat (x633.getD ((w64 (i634 - 1)).toNat) 0)).set ((w64 (i634 - 1)).toNat) (x633.getD i634.toNat 0)) true]⟩ (by kernel_rfl) ⟨trivial, trivial⟩ ?_
        refine WO_nil rfl ?_
        refine thenS_n ?_
        exact ih _ _ h
      · refine W_sub [0, 1, 2] [0, 5, 6, 7] (st' := ⟨[(0, .one (.e (.sl 0 0 x1.length))), (5, .one (.e (.sl 1 0 ([i2].length)))), (6, .one (.e (.sl 2 0 x633.length))), (7, I i463)], [.row .nod x1 false, .row .int [i2] true, .row .int x633 true]⟩) (by kernel_rfl) ?_
        refine W_exit ?_
        refine thenS_e ?_
        refine thenS_e ?_
        cases h
        exact And.intro rfl rfl

def spec_walk_L1 (rec : (List Nod) → Int → Option ((List Int))) (x1 : List Nod) (i2 : Int) : Nat → (List Int) → Int → Option ((List Int))
| 0, _, _ => none
| n + 1, x462, i463 =>
 iteO (decide (i463 < ((x462.length : Nat) : Int)))
 (bindO (spec_walk_L2 rec x1 i2 i463 n x462 i463) fun x654 =>
 spec_walk_L1 rec x1 i2 n x654 (w64 (i463 + 1)))
 (some x462)

theorem spec_walk_L1_ok (rec : (List Nod) → Int → Option ((List Int))) (hrec : ∀ (x1 : List Nod) (i2 : Int) (x3 : List Int), rec x1 i2 = some x3 → FOk EE 37 [.one (.e (.sl 0 0 x1.length)), I i2] [.row .nod x1 false] (.one (.e (.sl 1 0 x3.length))) [.row .nod x1 false, .row .int x3 true]) (w : World) (X : Nat → Prop) (θ : List Loc) (x1 : List Nod) (i2 : Int) (x560 : (List Int)) : ∀ (n : Nat) (x462 : List Int) (i463 : Int), spec_walk_L1 rec x1 i2 n x462 i463 = some x560 → WL EE ⟨w, X, θ, 79, 1⟩ (subC [1, 1, 1, 0, 1, 4, 4] (bodyC Try.f37)) (fun (e : Exit) (s : St) => e = .exit 0 ∧ s = ⟨[(0, .one (.e (.sl 0 0 x1.length))), (5, .one (.e (.sl 1 0 ([i2].length)))), (6, .one (.e (.sl 2 0 x560.length)))], [.row .nod x1 false, .row .int [i2] true, .row .int x560 true]⟩) ⟨[(0, .one (.e (.sl 0 0 x1.length))), (5, .one (.e (.sl 1 0 ([i2].length)))), (6, .one (.e (.sl 2 0 x462.length))), (7, I i463)], [.row .nod x1 false, .row .int [i2] true, .row .int x462 true]⟩ := by
  intro n
  induction n with
  | zero => intro _ _ h; exact none_e h
  | succ n ih =>
    intro x462 i463 h
    rw [spec_walk_L1] at h
    refine WL_round ?_
    refine W_seq ?_
    refine W_seq ?_
    refine W_region ?_
    refine WO_step 4 [0, 1, 2] [0, 5, 6, 7, 19] (True ∧ (True ∧ True)) ⟨[(0, .one (.e (.sl 0 0 x1.length))), (5, .one (.e (.sl 1 0 ([i2].length)))), (6, .one (.e (.sl 2 0 x462.length))), (7, I i463), (19, B (decide (i463 < ((x462.length : Nat) : Int))))], [.row .nod x1 false, .row .int [i2] true, .row .int x462 true]⟩ (by kernel_rfl) ⟨trivial, trivial, trivial⟩ ?_
    refine WO_nil rfl ?_
    refine thenS_n ?_
    refine iteO_e h (fun hb563 h => W_true rfl hb563 ?_) (fun hb563 h => W_false rfl hb563 ?_)
    · refine W_sub [0, 1, 2] [0, 5, 6, 7] (st' := ⟨[(0, .one (.e (.sl 0 0 x1.length))), (5, .one (.e (.sl 1 0 ([i2].length)))), (6, .one (.e (.sl 2 0 x462.length))), (7, I i463)], [.row .nod x1 false, .row .int [i2] true, .row .int x462 true]⟩) (by kernel_rfl) ?_
      refine W_skip ?_
      refine thenS_n ?_
      refine W_seq ?_
      refine W_block ?_
      refine W_seq ?_
      refine W_region ?_
      refine WO_step 2 [0, 1, 2] [0, 5, 6, 7, 8] True ⟨[(0, .one (.e (.sl 0 0 x1.length))), (5, .one (.e (.sl 1 0 ([i2].length)))), (6, .one (.e (.sl 2 0 x462.length))), (7, I i463), (8, I i463)], [.row .nod x1 false, .row .int [i2] true, .row .int x462 true]⟩ (by kernel_rfl) trivial ?_
      refine WO_nil rfl ?_
      refine thenS_n ?_
      refine W_block ?_
      refine W_loop ?_
      refine bindO_e h (fun x654 hx654 h => ?_)
      refine WL_cut (spec_walk_L2_ok rec hrec w X θ x1 i2 i463 x654 n x462 i463 hx654) ?_
      rintro _ _ ⟨rfl, rfl⟩
      refine blockS_y ?_
      refine blockS_n ?_
      refine thenS_n ?_
      refine W_region ?_
      refine WO_step 3 [0, 1, 2] [0, 5, 6, 7] (True ∧ True) ⟨[(0, .one (.e (.sl 0 0 x1.length))), (5, .one (.e (.sl 1 0 ([i2].length)))), (6, .one (.e (.sl 2 0 x654.length))), (7, I (w64 (i463 + 1)))], [.row .nod x1 false, .row .int [i2] true, .row .int x654 true]⟩ (by kernel_rfl) ⟨trivial, trivial⟩ ?_
      refine WO_nil rfl ?_
      refine thenS_n ?_
      exact ih _ _ h
    · refine W_sub [0, 1, 2] [0, 5, 6] (st' := ⟨[(0, .one (.e (.sl 0 0 x1.length))), (5, .one (.e (.sl 1 0 ([i2].length)))), (6, .one (.e (.sl 2 0 x462.length)))], [.row .nod x1 false, .row .int [i2] true, .row .int x462 true]⟩) (by kernel_rfl) ?_
      refine W_exit ?_
      refine thenS_e ?_
      refine thenS_e ?_
      cases h
      exact And.intro rfl rfl

def spec_walk_L3 (rec : (List Nod) → Int → Option ((List Int))) (x1 : List Nod) (x560 : List Int) : Nat → (List Int) → Int → Option ((List Int))
| 0, _, _ => none
| n + 1, x691, i692 =>
 iteO (decide (i692 < ((x560.length : Nat) : Int)))
 (guardO (0 ≤ i692 ∧ i692 < ((x560.length : Nat) : Int)) <|
 bindO (rec x1 (x560.getD i692.toNat 0)) fun x714 =>
 guardO (0 = 0 ∧ x691.length = x691.length ∧ x691.length + ((x714.drop 0).take x714.length).length ≤ 1099511627776) <|
 spec_walk_L3 rec x1 x560 n (x691 ++ ((x714.drop 0).take x714.length)) (w64 (i692 + 1)))
 (some x691)

theorem spec_walk_L3_ok (rec : (List Nod) → Int → Option ((List Int))) (hrec : ∀ (x1 : List Nod) (i2 : Int) (x3 : List Int), rec x1 i2 = some x3 → FOk EE 37 [.one (.e (.sl 0 0 x1.length)), I i2] [.row .nod x1 false] (.one (.e (.sl 1 0 x3.length))) [.row .nod x1 false, .row .int x3 true]) (w : World) (X : Nat → Prop) (θ : List Loc) (x1 : List Nod) (x560 : List Int) (x705 : (List Int)) : ∀ (n : Nat) (x691 : List Int) (i692 : Int), spec_walk_L3 rec x1 x560 n x691 i692 = some x705 → WL EE ⟨w, X, θ, 79, 1⟩ (subC [1, 1, 1, 1, 0, 1, 4, 4] (bodyC Try.f37)) (fun (e : Exit) (s : St) => e = .exit 4 ∧ s = ⟨[(5, .one (.e (.sl 1 0 x705.length)))], [.row .nod x1 false, .row .int x705 true]⟩) ⟨[(0, .one (.e (.sl 0 0 x1.length))), (5, .one (.e (.sl 1 0 x691.length))), (6, .one (.e (.sl 2 0 x560.length))), (10, I i692)], [.row .nod x1 false, .row .int x691 true, .row .int x560 true]⟩ := by
  intro n
  induction n with
  | zero => intro _ _ h; exact none_e h
  | succ n ih =>
    intro x691 i692 h
    rw [spec_walk_L3] at h
    refine WL_round ?_
    refine W_seq ?_
    refine W_seq ?_
    refine W_region ?_
    refine WO_step 4 [0, 1, 2] [0, 5, 6, 10, 67] (True ∧ (True ∧ True)) ⟨[(0, .one (.e (.sl 0 0 x1.length))), (5, .one (.e (.sl 1 0 x691.length))), (6, .one (.e (.sl 2 0 x560.length))), (10, I i692), (67, B (decide (i692 < ((x560.length : Nat) : Int))))], [.row .nod x1 false, .row .int x691 true, .row .int x560 true]⟩ (by kernel_rfl) ⟨trivial, trivial, trivial⟩ ?_
    refine WO_nil rfl ?_
    refine thenS_n ?_
    refine iteO_e h (fun hb708 h => W_true rfl hb708 ?_) (fun hb708 h => W_false rfl hb708 ?_)
    · refine W_sub [0, 1, 2] [0, 5, 6, 10] (st' := ⟨[(0, .one (.e (.sl 0 0 x1.length))), (5, .one (.e (.sl 1 0 x691.length))), (6, .one (.e (.sl 2 0 x560.length))), (10, I i692)], [.row .nod x1 false, .row .int x691 true, .row .int x560 true]⟩) (by kernel_rfl) ?_
      refine W_skip ?_
      refine thenS_n ?_
      refine W_seq ?_
      refine W_block ?_
      refine W_region ?_
      refine guardO_e h (fun hg713 h => ?_)
      refine WO_step 6 [0, 2, 1] [0, 6, 10, 70, 71, 75] ((0 ≤ i692 ∧ i692 < ((x560.length : Nat) : Int)) ∧ (True ∧ True)) ⟨[(0, .one (.e (.sl 0 0 x1.length))), (6, .one (.e (.sl 1 0 x560.length))), (10, I i692), (70, .one (.e (.sl 2 0 x691.length))), (71, .one (.e (.sl 0 0 x1.length))), (75, I (x560.getD i692.toNat 0))], [.row .nod x1 false, .row .int x560 true, .row .int x691 true]⟩ (by kernel_rfl) ⟨hg713, trivial, trivial⟩ ?_
      refine bindO_e h (fun x714 hc715 h => ?_)
      refine WO_call [.ro 0] Try.f37 rfl rfl rfl (by kernel_rfl) rfl rfl (by kernel_rfl) (hrec x1 (x560.getD i692.toNat 0) x714 hc715) (And.intro (And.intro rfl rfl) (trivial)) rfl ?_
      refine guardO_e h (fun hg716 h => ?_)
      refine WO_step 2 [0, 4, 1] [0, 5, 6, 10] ((0 = 0 ∧ x691.length = x691.length ∧ x691.length + ((x714.drop 0).take x714.length).length ≤ 1099511627776) ∧ True) ⟨[(0, .one (.e (.sl 0 0 x1.length))), (5, .one (.e (.sl 1 0 ((x691 ++ ((x714.drop 0).take x714.length)).length)))), (6, .one (.e (.sl 2 0 x560.length))), (10, I i692)], [.row .nod x1 false, .row .int (x691 ++ ((x714.drop 0).take x714.length)) true, .row .int x560 true]⟩ (by kernel_rfl) ⟨hg716, trivial⟩ ?_
      refine WO_nil rfl ?_
      refine blockS_n ?_
      refine thenS_n ?_
      refine W_region ?_
      refine WO_step 3 [0, 1, 2] [0, 5, 6, 10] (True ∧ True) ⟨[(0, .one (.e (.sl 0 0 x1.length))), (5, .one (.e (.sl 1 0 ((x691 ++ ((x714.drop 0).take x714.length)).length)))), (6, .one (.e (.sl 2 0 x560.length))), (10, I (w64 (i692 + 1)))], [.row .nod x1 false, .row .int (x691 ++ ((x714.drop 0).take x714.length)) true, .row .int x560 true]⟩ (by kernel_rfl) ⟨trivial, trivial⟩ ?_
      refine WO_nil rfl ?_
      refine thenS_n ?_
      exact ih _ _ h
    · refine W_sub [0, 1] [5] (st' := ⟨[(5, .one (.e (.sl 1 0 x691.length)))], [.row .nod x1 false, .row .int x691 true]⟩) (by kernel_rfl) ?_
      refine W_exit ?_
      refine thenS_e ?_
      refine thenS_e ?_
      cases h
      exact And.intro rfl rfl

def spec_walk_B (rec : (List Nod) → Int → Option ((List Int))) (n : Nat) (x1 : List Nod) (i2 : Int) : Option ((List Int)) :=
 bindO (spec_kids n x1 i2) fun x360 =>
 bindO (spec_walk_L1 rec x1 i2 n x360 0) fun x560 =>
 bindO (spec_walk_L3 rec x1 x560 n [i2] 0) fun x705 =>
 some x705

theorem spec_walk_B_ok (rec : (List Nod) → Int → Option ((List Int))) (hrec : ∀ (x1 : List Nod) (i2 : Int) (x3 : List Int), rec x1 i2 = some x3 → FOk EE 37 [.one (.e (.sl 0 0 x1.length)), I i2] [.row .nod x1 false] (.one (.e (.sl 1 0 x3.length))) [.row .nod x1 false, .row .int x3 true]) (n : Nat) (x1 : List Nod) (i2 : Int) (x359 : List Int) (h : spec_walk_B rec n x1 i2 = some x359) : FOk EE 37 [.one (.e (.sl 0 0 x1.length)), I i2] [.row .nod x1 false] (.one (.e (.sl 1 0 x359.length))) [.row .nod x1 false, .row .int x359 true] := by
  unfold spec_walk_B at h
  refine FOk_of_W 79 1 Try.func37 rfl rfl (Nat.le_of_ble_eq_true rfl) rfl (fun w X θ => ?_)
  refine W_seq ?_
  refine W_region ?_
  refine WO_step 1 [0] [0, 1] True ⟨[(0, .one (.e (.sl 0 0 x1.length))), (1, I i2)], [.row .nod x1 false]⟩ (by kernel_rfl) trivial ?_
  refine WO_nil rfl ?_
  refine thenS_n ?_
  refine W_seq ?_
  refine W_region ?_
  refine WO_step 3 [0, 1] [0, 1, 5] True ⟨[(0, .one (.e (.sl 0 0 x1.length))), (1, I i2), (5, .one (.e (.sl 1 0 ([i2].length))))], [.row .nod x1 false, .row .int [i2] true]⟩ (by kernel_rfl) trivial ?_
  refine WO_nil rfl ?_
  refine thenS_n ?_
  refine W_seq ?_
  refine W_region ?_
  refine WO_step 2 [0, 1] [0, 5, 13, 14] True ⟨[(0, .one (.e (.sl 0 0 x1.length))), (5, .one (.e (.sl 1 0 ([i2].length)))), (13, .one (.e (.sl 0 0 x1.length))), (14, I i2)], [.row .nod x1 false, .row .int [i2] true]⟩ (by kernel_rfl) trivial ?_
  refine bindO_e h (fun x360 hc361 h => ?_)
  refine WO_call [.ro 0] Try.f52 rfl rfl rfl (by kernel_rfl) rfl rfl (by kernel_rfl) (spec_kids_ok n x1 i2 x360 hc361) (And.intro (And.intro rfl rfl) (trivial)) rfl ?_
  refine WO_step 1 [0, 1, 2] [0, 5, 6] True ⟨[(0, .one (.e (.sl 0 0 x1.length))), (5, .one (.e (.sl 1 0 ([i2].length)))), (6, .one (.e (.sl 2 0 x360.length)))], [.row .nod x1 false, .row .int [i2] true, .row .int x360 true]⟩ (by kernel_rfl) trivial ?_
  refine WO_nil rfl ?_
  refine thenS_n ?_
  refine W_seq ?_
  refine W_seq ?_
  refine W_region ?_
  refine WO_step 1 [0, 1, 2] [0, 5, 6, 7] True ⟨[(0, .one (.e (.sl 0 0 x1.length))), (5, .one (.e (.sl 1 0 ([i2].length)))), (6, .one (.e (.sl 2 0 x360.length))), (7, I 0)], [.row .nod x1 false, .row .int [i2] true, .row .int x360 true]⟩ (by kernel_rfl) trivial ?_
  refine WO_nil rfl ?_
  refine thenS_n ?_
  refine W_block ?_
  refine W_loop ?_
  refine bindO_e h (fun x560 hx560 h => ?_)
  refine WL_cut (spec_walk_L1_ok rec hrec w X θ x1 i2 x560 n x360 0 hx560) ?_
  rintro _ _ ⟨rfl, rfl⟩
  refine blockS_y ?_
  refine thenS_n ?_
  refine W_seq ?_
  refine W_seq ?_
  refine W_region ?_
  refine WO_step 1 [0, 1, 2] [0, 5, 6, 10] True ⟨[(0, .one (.e (.sl 0 0 x1.length))), (5, .one (.e (.sl 1 0 ([i2].length)))), (6, .one (.e (.sl 2 0 x560.length))), (10, I 0)], [.row .nod x1 false, .row .int [i2] true, .row .int x560 true]⟩ (by kernel_rfl) trivial ?_
  refine WO_nil rfl ?_
  refine thenS_n ?_
  refine W_block ?_
  refine W_loop ?_
  refine bindO_e h (fun x705 hx705 h => ?_)
  refine WL_cut (spec_walk_L3_ok rec hrec w X θ x1 x560 x705 n [i2] 0 hx705) ?_
  rintro _ _ ⟨rfl, rfl⟩
  refine blockS_y ?_
  refine thenS_n ?_
  refine W_seq ?_
  refine W_region ?_
  refine WO_step 2 [0, 1] [4] True ⟨[(4, .one (.e (.sl 1 0 x705.length)))], [.row .nod x1 false, .row .int x705 true]⟩ (by kernel_rfl) trivial ?_
  refine WO_nil rfl ?_
  refine thenS_n ?_
  refine W_ret ?_
  cases h
  exact ⟨[0, 1], True, by kernel_rfl, trivial⟩

def spec_walk : Nat → (List Nod) → Int → Option ((List Int))
| 0, _, _ => none
| n + 1, x1, i2 => spec_walk_B (spec_walk n) n x1 i2

theorem spec_walk_ok : ∀ (n : Nat) (x1 : List Nod) (i2 : Int) (x359 : List Int), spec_walk n x1 i2 = some x359 → FOk EE 37 [.one (.e (.sl 0 0 x1.length)), I i2] [.row .nod x1 false] (.one (.e (.sl 1 0 x359.length))) [.row .nod x1 false, .row .int x359 true] := by
  intro n
  induction n with
  | zero => intro _ _ _ h; exact none_e h
  | succ n ih => intro x1 i2 x359 h; exact spec_walk_B_ok (spec_walk n) ih n x1 i2 x359 h

/- spec.pathTo -/
def spec_pathTo_L1 (x1 : List Nod) : Nat → (List Int) → Int → Option ((List Int))
| 0, _, _ => none
| n + 1, x46, i47 =>
 iteO (decide (0 < i47))
 (guardO (0 ≤ i47 ∧ i47 < ((x1.length : Nat) : Int)) <|
 guardO (0 = 0 ∧ [(x1.getD i47.toNat dnod).parent].length = [(x1.getD i47.toNat dnod).parent].length ∧ [(x1.getD i47.toNat dnod).parent].length + ((x46.drop 0).take x46.length).length ≤ 1099511627776) <|
 spec_pathTo_L1 x1 n ([(x1.getD i47.toNat dnod).parent] ++ ((x46.drop 0).take x46.length)) ((x1.getD i47.toNat dnod).parent))
 (some x46)

theorem spec_pathTo_L1_ok (w : World) (X : Nat → Prop) (θ : List Loc) (x1 : List Nod) (x56 : (List Int)) : ∀ (n : Nat) (x46 : List Int) (i47 : Int), spec_pathTo_L1 x1 n x46 i47 = some x56 → WL EE ⟨w, X, θ, 20, 1⟩ (subC [1, 1, 0, 4, 4] (bodyC Try.f53)) (fun (e : Exit) (s : St) => e = .exit 0 ∧ s = ⟨[(5, .one (.e (.sl 1 0 x56.length)))], [.row .nod x1 false, .row .int x56 true]⟩) ⟨[(0, .one (.e (.sl 0 0 x1.length))), (1, I i47), (5, .one (.e (.sl 1 0 x46.length)))], [.row .nod x1 false, .row .int x46 true]⟩ := by
  intro n
  induction n with
  | zero => intro _ _ h; exact none_e h
  | succ n ih =>
    intro x46 i47 h
    rw [spec_pathTo_L1] at h
    refine WL_round ?_
    refine W_seq ?_
    refine W_seq ?_
    refine W_region ?_
    refine WO_step 2 [0, 1] [0, 1, 5, 9] (True ∧ True) ⟨[(0, .one (.e (.sl 0 0 x1.length))), (1, I i47), (5, .one (.e (.sl 1 0 x46.length))), (9, B (decide (0 < i47)))], [.row .nod x1 false, .row .int x46 true]⟩ (by kernel_rfl) ⟨trivial, trivial⟩ ?_
    refine WO_nil rfl ?_
    refine thenS_n ?_
    refine iteO_e h (fun hb59 h => W_true rfl hb59 ?_) (fun hb59 h => W_false rfl hb59 ?_)
    · refine W_sub [0, 1] [0, 1, 5] (st' := ⟨[(0, .one (.e (.sl 0 0 x1.length))), (1, I i47), (5, .one (.e (.sl 1 0 x46.length)))], [.row .nod x1 false, .row .int x46 true]⟩) (by kernel_rfl) ?_
      refine W_skip ?_
      refine thenS_n ?_
      refine W_block ?_
      refine W_seq ?_
      refine W_region ?_
      refine guardO_e h (fun hg62 h => ?_)
      refine WO_step 6 [0, 1] [0, 1, 5] ((0 ≤ i47 ∧ i47 < ((x1.length : Nat) : Int)) ∧ (True ∧ True)) ⟨[(0, .one (.e (.sl 0 0 x1.length))), (1, I ((x1.getD i47.toNat dnod).parent)), (5, .one (.e (.sl 1 0 x46.length)))], [.row .nod x1 false, .row .int x46 true]⟩ (by kernel_rfl) ⟨hg62, trivial, trivial⟩ ?_
      refine WO_nil rfl ?_
      refine thenS_n ?_
      refine W_region ?_
      refine guardO_e h (fun hg63 h => ?_)
      refine WO_step 5 [0, 3] [0, 1, 5] ((0 = 0 ∧ [(x1.getD i47.toNat dnod).parent].length = [(x1.getD i47.toNat dnod).parent].length ∧ [(x1.getD i47.toNat dnod).parent].length + ((x46.drop 0).take x46.length).length ≤ 1099511627776) ∧ True) ⟨[(0, .one (.e (.sl 0 0 x1.length))), (1, I ((x1.getD i47.toNat dnod).parent)), (5, .one (.e (.sl 1 0 (([(x1.getD i47.toNat dnod).parent] ++ ((x46.drop 0).take x46.length)).length))))], [.row .nod x1 false, .row .int ([(x1.getD i47.toNat dnod).parent] ++ ((x46.drop 0).take x46.length)) true]⟩ (by kernel_rfl) ⟨hg63, trivial⟩ ?_
      refine WO_nil rfl ?_
      refine blockS_n ?_
      refine thenS_n ?_
      exact ih _ _ h
    · refine W_sub [0, 1] [5] (st' := ⟨[(5, .one (.e (.sl 1 0 x46.length)))], [.row .nod x1 false, .row .int x46 true]⟩) (by kernel_rfl) ?_
      refine W_exit ?_
      refine thenS_e ?_
      refine thenS_e ?_
      cases h
      exact And.intro rfl rfl

def spec_pathTo (n : Nat) (x1 : List Nod) (i2 : Int) : Option ((List Int)) :=
 bindO (spec_pathTo_L1 x1 n [i2] i2) fun x56 =>
 some x56

theorem spec_pathTo_ok (n : Nat) (x1 : List Nod) (i2 : Int) (x33 : List Int) (h : spec_pathTo n x1 i2 = some x33) : FOk EE 53 [.one (.e (.sl 0 0 x1.length)), I i2] [.row .nod x1 false] (.one (.e (.sl 1 0 x33.length))) [.row .nod x1 false, .row .int x33 true] := by
  unfold spec_pathTo at h
  refine FOk_of_W 20 1 Try.func53 rfl rfl (Nat.le_of_ble_eq_true rfl) rfl (fun w X θ => ?_)
  refine W_seq ?_
  refine W_region ?_
  refine WO_step 1 [0] [0, 1] True ⟨[(0, .one (.e (.sl 0 0 x1.length))), (1, I i2)], [.row .nod x1 false]⟩ (by kernel_rfl) trivial ?_
  refine WO_nil rfl ?_
  refine thenS_n ?_
  refine W_seq ?_
  refine W_region ?_
  refine WO_step 3 [0, 1] [0, 1, 5] True ⟨[(0, .one (.e (.sl 0 0 x1.length))), (1, I i2), (5, .one (.e (.sl 1 0 ([i2].length))))], [.row .nod x1 false, .row .int [i2] true]⟩ (by kernel_rfl) trivial ?_
  refine WO_nil rfl ?_
  refine thenS_n ?_
  refine W_seq ?_
  refine W_block ?_
  refine W_loop ?_
  refine bindO_e h (fun x56 hx56 h => ?_)
  refine WL_cut (spec_pathTo_L1_ok w X θ x1 x56 n [i2] i2 hx56) ?_
  rintro _ _ ⟨rfl, rfl⟩
  refine blockS_y ?_
  refine thenS_n ?_
  refine W_seq ?_
  refine W_region ?_
  refine WO_step 2 [0, 1] [4] True ⟨[(4, .one (.e (.sl 1 0 x56.length)))], [.row .nod x1 false, .row .int x56 true]⟩ (by kernel_rfl) trivial ?_
  refine WO_nil rfl ?_
  refine thenS_n ?_
  refine W_ret ?_
  cases h
  exact ⟨[0, 1], True, by kernel_rfl, trivial⟩

/- spec.pathText -/
def spec_pathText_L1 (x1 : List Nod) (i2 : Int) (x48 : List Int) : Nat → Str → Int → Option (Str)
| 0, _, _ => none
| n + 1, s66, i67 =>
 iteO (decide (i67 < ((x48.length : Nat) : Int)))
 (guardO (s66.length + [47].length ≤ 1099511627776) <|
 guardO (0 ≤ i67 ∧ i67 < ((x48.length : Nat) : Int)) <|
 guardO (0 ≤ (x48.getD i67.toNat 0) ∧ (x48.getD i67.toNat 0) < ((x1.length : Nat) : Int)) <|
 guardO ((s66 ++ [47]).length + ((x1.getD ((x48.getD i67.toNat 0).toNat) dnod).name).length ≤ 1099511627776) <|
 spec_pathText_L1 x1 i2 x48 n ((s66 ++ [47]) ++ ((x1.getD ((x48.getD i67.toNat 0).toNat) dnod).name)) (w64 (i67 + 1)))
 (some s66)

theorem spec_pathText_L1_ok (w : World) (X : Nat → Prop) (θ : List Loc) (x1 : List Nod) (i2 : Int) (x48 : List Int) (s80 : Str) : ∀ (n : Nat) (s66 : Str) (i67 : Int), spec_pathText_L1 x1 i2 x48 n s66 i67 = some s80 → WL EE ⟨w, X, θ, 31, 1⟩ (subC [1, 1, 1, 0, 1, 4, 4] (bodyC Try.f38)) (fun (e : Exit) (s : St) => e = .exit 0 ∧ s = ⟨[(1, I i2), (5, S s80)], [.row .nod x1 false]⟩) ⟨[(0, .one (.e (.sl 0 0 x1.length))), (1, I i2), (5, S s66), (6, .one (.e (.sl 1 0 x48.length))), (7, I i67)], [.row .nod x1 false, .row .int x48 true]⟩ := by
  intro n
  induction n with
  | zero => intro _ _ h; exact none_e h
  | succ n ih =>
    intro s66 i67 h
    rw [spec_pathText_L1] at h
    refine WL_round ?_
    refine W_seq ?_
    refine W_seq ?_
    refine W_region ?_
    refine WO_step 4 [0, 1] [0, 1, 5, 6, 7, 14] (True ∧ (True ∧ True)) ⟨[(0, .one (.e (.sl 0 0 x1.length))), (1, I i2), (5, S s66), (6, .one (.e (.sl 1 0 x48.length))), (7, I i67), (14, B (decide (i67 < ((x48.length : Nat) : Int))))], [.row .nod x1 false, .row .int x48 true]⟩ (by kernel_rfl) ⟨trivial, trivial, trivial⟩ ?_
    refine WO_nil rfl ?_
    refine thenS_n ?_
    refine iteO_e h (fun hb83 h => W_true rfl hb83 ?_) (fun hb83 h => W_false rfl hb83 ?_)
    · refine W_sub [0, 1] [0, 1, 5, 6, 7] (st' := ⟨[(0, .one (.e (.sl 0 0 x1.length))), (1, I i2), (5, S s66), (6, .one (.e (.sl 1 0 x48.length))), (7, I i67)], [.row .nod x1 false, .row .int x48 true]⟩) (by kernel_rfl) ?_
      refine W_skip ?_
      refine thenS_n ?_
      refine W_seq ?_
      refine W_block ?_
      refine W_region ?_
      refine guardO_e h (fun hg88 h => ?_)
      refine guardO_e h (fun hg89 h => ?_)
      refine guardO_e h (fun hg90 h => ?_)
      refine guardO_e h (fun hg91 h => ?_)
      refine WO_step 12 [0, 1] [0, 1, 5, 6, 7] ((s66.length + [47].length ≤ 1099511627776) ∧ ((0 ≤ i67 ∧ i67 < ((x48.length : Nat) : Int)) ∧ (True ∧ ((0 ≤ (x48.getD i67.toNat 0) ∧ (x48.getD i67.toNat 0) < ((x1.length : Nat) : Int)) ∧ (True ∧ (((s66 ++ [47]).length + ((x1.getD ((x48.getD i67.toNat 0).toNat) dnod).name).length ≤ 1099511627776) ∧ True)))))) ⟨[(0, .one (.e (.sl 0 0 x1.length))), (1, I i2), (5, S ((s66 ++ [47]) ++ ((x1.getD ((x48.getD i67.toNat 0).toNat) dnod).name))), (6, .one (.e (.sl 1 0 x48.length))), (7, I i67)], [.row .nod x1 false, .row .int x48 true]⟩ (by kernel_rfl) ⟨hg88, hg89, trivial, hg90, trivial, hg91, trivial⟩ ?_
      refine WO_nil rfl ?_
      refine blockS_n ?_
      refine thenS_n ?_
      refine W_region ?_
      refine WO_step 3 [0, 1] [0, 1, 5, 6, 7] (True ∧ True) ⟨[(0, .one (.e (.sl 0 0 x1.length))), (1, I i2), (5, S ((s66 ++ [47]) ++ ((x1.getD ((x48.getD i67.toNat 0).toNat) dnod).name))), (6, .one (.e (.sl 1 0 x48.length))), (7, I (w64 (i67 + 1)))], [.row .nod x1 false, .row .int x48 true]⟩ (by kernel_rfl) ⟨trivial, trivial⟩ ?_
      refine WO_nil rfl ?_
      refine thenS_n ?_
      exact ih _ _ h
    · refine W_sub [0] [1, 5] (st' := ⟨[(1, I i2), (5, S s66)], [.row .nod x1 false]⟩) (by kernel_rfl) ?_
      refine W_exit ?_
      refine thenS_e ?_
      refine thenS_e ?_
      cases h
      exact And.intro rfl rfl

def spec_pathText (n : Nat) (x1 : List Nod) (i2 : Int) : Option (Str) :=
 bindO (spec_pathTo n x1 i2) fun x48 =>
 bindO (spec_pathText_L1 x1 i2 x48 n [] 1) fun s80 =>
 iteO (decide (i2 = 0))
 (some [47])
 (some s80)

theorem spec_pathText_ok (n : Nat) (x1 : List Nod) (i2 : Int) (s47 : Str) (h : spec_pathText n x1 i2 = some s47) : FOk EE 38 [.one (.e (.sl 0 0 x1.length)), I i2] [.row .nod x1 false] (S s47) [.row .nod x1 false] := by
  unfold spec_pathText at h
  refine FOk_of_W 31 1 Try.func38 rfl rfl (Nat.le_of_ble_eq_true rfl) rfl (fun w X θ => ?_)
  refine W_seq ?_
  refine W_region ?_
  refine WO_step 1 [0] [0, 1] True ⟨[(0, .one (.e (.sl 0 0 x1.length))), (1, I i2)], [.row .nod x1 false]⟩ (by kernel_rfl) trivial ?_
  refine WO_nil rfl ?_
  refine thenS_n ?_
  refine W_seq ?_
  refine W_region ?_
  refine WO_step 1 [0] [0, 1, 5] True ⟨[(0, .one (.e (.sl 0 0 x1.length))), (1, I i2), (5, S [])], [.row .nod x1 false]⟩ (by kernel_rfl) trivial ?_
  refine WO_nil rfl ?_
  refine thenS_n ?_
  refine W_seq ?_
  refine W_region ?_
  refine WO_step 2 [0] [0, 1, 5, 8, 9] True ⟨[(0, .one (.e (.sl 0 0 x1.length))), (1, I i2), (5, S []), (8, .one (.e (.sl 0 0 x1.length))), (9, I i2)], [.row .nod x1 false]⟩ (by kernel_rfl) trivial ?_
  refine bindO_e h (fun x48 hc49 h => ?_)
  refine WO_call [.ro 0] Try.f53 rfl rfl rfl (by kernel_rfl) rfl rfl (by kernel_rfl) (spec_pathTo_ok n x1 i2 x48 hc49) (And.intro (And.intro rfl rfl) (trivial)) rfl ?_
  refine WO_step 1 [0, 1] [0, 1, 5, 6] True ⟨[(0, .one (.e (.sl 0 0 x1.length))), (1, I i2), (5, S []), (6, .one (.e (.sl 1 0 x48.length)))], [.row .nod x1 false, .row .int x48 true]⟩ (by kernel_rfl) trivial ?_
  refine WO_nil rfl ?_
  refine thenS_n ?_
  refine W_seq ?_
  refine W_seq ?_
  refine W_region ?_
  refine WO_step 1 [0, 1] [0, 1, 5, 6, 7] True ⟨[(0, .one (.e (.sl 0 0 x1.length))), (1, I i2), (5, S []), (6, .one (.e (.sl 1 0 x48.length))), (7, I 1)], [.row .nod x1 false, .row .int x48 true]⟩ (by kernel_rfl) trivial ?_
  refine WO_nil rfl ?_
  refine thenS_n ?_
  refine W_block ?_
  refine W_loop ?_
  refine bindO_e h (fun s80 hs80 h => ?_)
  refine WL_cut (spec_pathText_L1_ok w X θ x1 i2 x48 s80 n [] 1 hs80) ?_
  rintro _ _ ⟨rfl, rfl⟩
  refine blockS_y ?_
  refine thenS_n ?_
  refine W_seq ?_
  refine W_seq ?_
  refine W_region ?_
  refine WO_step 2 [0] [5, 29] (True ∧ True) ⟨[(5, S s80), (29, B (decide (i2 = 0)))], [.row .nod x1 false]⟩ (by kernel_rfl) ⟨trivial, trivial⟩ ?_
  refine WO_nil rfl ?_
  refine thenS_n ?_
  refine iteO_e h (fun hb94 h => W_true rfl hb94 ?_) (fun hb94 h => W_false rfl hb94 ?_)
  · refine W_seq ?_
    refine W_region ?_
    refine WO_step 1 [0] [4] True ⟨[(4, S [47])], [.row .nod x1 false]⟩ (by kernel_rfl) trivial ?_
    refine WO_nil rfl ?_
    refine thenS_n ?_
    refine W_ret ?_
    refine thenS_r ?_
    cases h
    exact ⟨[0], True, by kernel_rfl, trivial⟩
  · refine W_sub [0] [5] (st' := ⟨[(5, S s80)], [.row .nod x1 false]⟩) (by kernel_rfl) ?_
    refine W_skip ?_
    refine thenS_n ?_
    refine W_seq ?_
    refine W_region ?_
    refine WO_step 2 [0] [4] True ⟨[(4, S s80)], [.row .nod x1 false]⟩ (by kernel_rfl) trivial ?_
    refine WO_nil rfl ?_
    refine thenS_n ?_
    refine W_ret ?_
    cases h
    exact ⟨[0], True, by kernel_rfl, trivial⟩

/- spec.entries -/
def spec_entries_L1 (x1 : List Nod) (x59 : List Int) : Nat → (List Edt) → Int → Option ((List Edt))
| 0, _, _ => none
| n + 1, x81, i82 =>
 iteO (decide (i82 < ((x59.length : Nat) : Int)))
 (guardO (0 ≤ i82 ∧ i82 < ((x59.length : Nat) : Int)) <|
 bindO (spec_pathText n x1 (x59.getD i82.toNat 0)) fun s110 =>
 guardO (0 ≤ i82 ∧ i82 < ((x59.length : Nat) : Int)) <|
 guardO (0 ≤ (x59.getD i82.toNat 0) ∧ (x59.getD i82.toNat 0) < ((x1.length : Nat) : Int)) <|
 guardO (0 = 0 ∧ x81.length = x81.length ∧ x81.length + (([(⟨0, s110, (x1.getD ((x59.getD i82.toNat 0).toNat) dnod).value⟩ : Edt)].drop 0).take ([(⟨0, s110, (x1.getD ((x59.getD i82.toNat 0).toNat) dnod).value⟩ : Edt)].length)).length ≤ 1099511627776) <|
 spec_entries_L1 x1 x59 n (x81 ++ (([(⟨0, s110, (x1.getD ((x59.getD i82.toNat 0).toNat) dnod).value⟩ : Edt)].drop 0).take ([(⟨0, s110, (x1.getD ((x59.getD i82.toNat 0).toNat) dnod).value⟩ : Edt)].length))) (w64 (i82 + 1)))
 (some x81)

theorem spec_entries_L1_ok (w : World) (X : Nat → Prop) (θ : List Loc) (x1 : List Nod) (x59 : List Int) (x99 : (List Edt)) : ∀ (n : Nat) (x81 : List Edt) (i82 : Int), spec_entries_L1 x1 x59 n x81 i82 = some x99 → WL EE ⟨w, X, θ, 34, 1⟩ (subC [1, 1, 1, 0, 1, 4, 4] (bodyC Try.f18)) (fun (e : Exit) (s : St) => e = .exit 0 ∧ s = ⟨[(3, .one (.e (.sl 1 0 x99.length)))], [.row .nod x1 false, .row .edt x99 true]⟩) ⟨[(0, .one (.e (.sl 0 0 x1.length))), (3, .one (.e (.sl 1 0 x81.length))), (4, .one (.e (.sl 2 0 x59.length))), (5, I i82)], [.row .nod x1 false, .row .edt x81 true, .row .int x59 true]⟩ := by
  intro n
  induction n with
  | zero => intro _ _ h; exact none_e h
  | succ n ih =>
    intro x81 i82 h
    rw [spec_entries_L1] at h
    refine WL_round ?_
    refine W_seq ?_
    refine W_seq ?_
    refine W_region ?_
    refine WO_step 4 [0, 1, 2] [0, 3, 4, 5, 12] (True ∧ (True ∧ True)) ⟨[(0, .one (.e (.sl 0 0 x1.length))), (3, .one (.e (.sl 1 0 x81.length))), (4, .one (.e (.sl 2 0 x59.length))), (5, I i82), (12, B (decide (i82 < ((x59.length : Nat) : Int))))], [.row .nod x1 false, .row .edt x81 true, .row .int x59 true]⟩ (by kernel_rfl) ⟨trivial, trivial, trivial⟩ ?_
    refine WO_nil rfl ?_
    refine thenS_n ?_
    refine iteO_e h (fun hb102 h => W_true rfl hb102 ?_) (fun hb102 h => W_false rfl hb102 ?_)
    · refine W_sub [0, 1, 2] [0, 3, 4, 5] (st' := ⟨[(0, .one (.e (.sl 0 0 x1.length))), (3, .one (.e (.sl 1 0 x81.length))), (4, .one (.e (.sl 2 0 x59.length))), (5, I i82)], [.row .nod x1 false, .row .edt x81 true, .row .int x59 true]⟩) (by kernel_rfl) ?_
      refine W_skip ?_
      refine thenS_n ?_
      refine W_seq ?_
      refine W_block ?_
      refine guardO_e h (fun hg109 h => ?_)
      refine bindO_e h (fun s110 hc111 h => ?_)
      refine guardO_e h (fun hg112 h => ?_)
      refine guardO_e h (fun hg113 h => ?_)
      refine guardO_e h (fun hg114 h => ?_)
      refine W_cut (Q' := fun (e : Exit) (s : St) => e = .normal ∧ s = ⟨[(0, .one (.e (.sl 0 0 x1.length))), (3, .one (.e (.sl 1 0 ((x81 ++ (([(⟨0, s110, (x1.getD ((x59.getD i82.toNat 0).toNat) dnod).value⟩ : Edt)].drop 0).take ([(⟨0, s110, (x1.getD ((x59.getD i82.toNat 0).toNat) dnod).value⟩ : Edt)].length))).length)))), (4, .one (.e (.sl 2 0 x59.length))), (5, I i82)], [.row .nod x1 false, .row .edt (x81 ++ (([(⟨0, s110, (x1.getD ((x59.getD i82.toNat 0).toNat) dnod).value⟩ : Edt)].drop 0).take ([(⟨0, s110, (x1.getD ((x59.getD i82.toNat 0).toNat) dnod).value⟩ : Edt)].length))) true, .row .int x59 true]⟩) ?_ ?_
      · refine W_draw [1] false (by kernel_rfl) (by kernel_rfl) ?_
        refine WD_takeK [0, 1, 2, 3, 4, 5, 7, 8, 9, 10, 11, 12, 13, 14] [0, 3, 4, 5, 15, 16, 20, 29] [0, 3, 4, 5, 15, 16, 20, 29] (φ := ((0 ≤ i82 ∧ i82 < ((x59.length : Nat) : Int)) ∧ (0 ≤ i82 ∧ i82 < ((x59.length : Nat) : Int)) ∧ (True ∧ True ∧ ((0 ≤ i82 ∧ i82 < ((x59.length : Nat) : Int)) ∧ (0 ≤ i82 ∧ i82 < ((x59.length : Nat) : Int)) ∧ (True ∧ True ∧ ((0 ≤ (x59.getD i82.toNat 0) ∧ (x59.getD i82.toNat 0) < ((x1.length : Nat) : Int)) ∧ (0 ≤ (x59.getD i82.toNat 0) ∧ (x59.getD i82.toNat 0) < ((x1.length : Nat) : Int)) ∧ (True ∧ True ∧ True))))))) (ls' := #[true, true, true, true, true, true, false, true, true, true, true, true, true, true, true, false, false, false, false]) (Ts' := [(0, .one (.e (.sl 0 0 x1.length))), (3, .one (.e (.sl 1 0 x81.length))), (4, .one (.e (.sl 2 0 x59.length))), (5, I i82), (15, .one (.e (.sl 1 0 x81.length))), (16, .one (.e (.sl 0 0 x1.length))), (20, I (x59.getD i82.toNat 0)), (29, I ((x1.getD ((x59.getD i82.toNat 0).toNat) dnod).value))]) (st' := ⟨[(0, .one (.e (.sl 0 0 x1.length))), (3, .one (.e (.sl 1 0 x81.length))), (4, .one (.e (.sl 2 0 x59.length))), (5, I i82), (15, .one (.e (.sl 1 0 x81.length))), (16, .one (.e (.sl 0 0 x1.length))), (20, I (x59.getD i82.toNat 0)), (29, I ((x1.getD ((x59.getD i82.toNat 0).toNat) dnod).value))], [.row .nod x1 false, .row .edt x81 true, .row .int x59 true]⟩) (n2 := 5) (by kernel_rfl) ⟨hg109, hg109, trivial, trivial, hg112, hg112, trivial, trivial, hg113, hg113, trivial, trivial, trivial⟩ rfl ?_
        refine WD_all [6] (n := 4) (by kernel_rfl) rfl ?_
        refine WM_call [.ro 0] Try.f38 rfl rfl (by kernel_rfl) rfl rfl (by kernel_rfl) (spec_pathText_ok n x1 (x59.getD i82.toNat 0) s110 hc111) (And.intro (And.intro rfl rfl) (trivial)) rfl (And.intro rfl (And.intro rfl (trivial))) ?_
        refine WD_takeK [15] [0, 3, 4, 5, 15, 30] [0, 3, 4, 5, 15, 30] (φ := True) (ls' := #[true, true, true, true, true, true, true, true, true, true, true, true, true, true, true, true, false, false, false]) (Ts' := [(0, .one (.e (.sl 0 0 x1.length))), (3, .one (.e (.sl 1 0 x81.length))), (4, .one (.e (.sl 2 0 x59.length))), (5, I i82), (15, .one (.e (.sl 1 0 x81.length))), (30, AGG [cI 0, cS s110, cI ((x1.getD ((x59.getD i82.toNat 0).toNat) dnod).value)])]) (st' := ⟨[(0, .one (.e (.sl 0 0 x1.length))), (3, .one (.e (.sl 1 0 x81.length))), (4, .one (.e (.sl 2 0 x59.length))), (5, I i82), (15, .one (.e (.sl 1 0 x81.length))), (30, AGG [cI 0, cS s110, cI ((x1.getD ((x59.getD i82.toNat 0).toNat) dnod).value)])], [.row .nod x1 false, .row .edt x81 true, .row .int x59 true]⟩) (n2 := 3) (by kernel_rfl) trivial rfl ?_
        refine WD_all [16] (n := 2) (by kernel_rfl) rfl ?_
        refine WM_op (φ := True) (v := .one (.e (.sl 3 0 ([(⟨0, s110, (x1.getD ((x59.getD i82.toNat 0).toNat) dnod).value⟩ : Edt)].length)))) (H' := [.row .nod x1 false, .row .edt x81 true, .row .int x59 true, .row .edt [(⟨0, s110, (x1.getD ((x59.getD i82.toNat 0).toNat) dnod).value⟩ : Edt)] true]) rfl rfl (by kernel_rfl) trivial rfl (And.intro rfl (And.intro rfl (trivial))) ?_
        refine WD_all [17] (n := 1) (by kernel_rfl) rfl ?_
        refine WM_op (φ := 0 = 0 ∧ x81.length = x81.length ∧ x81.length + (([(⟨0, s110, (x1.getD ((x59.getD i82.toNat 0).toNat) dnod).value⟩ : Edt)].drop 0).take ([(⟨0, s110, (x1.getD ((x59.getD i82.toNat 0).toNat) dnod).value⟩ : Edt)].length)).length ≤ 1099511627776) (v := .one (.e (.sl 4 0 ((x81 ++ (([(⟨0, s110, (x1.getD ((x59.getD i82.toNat 0).toNat) dnod).value⟩ : Edt)].drop 0).take ([(⟨0, s110, (x1.getD ((x59.getD i82.toNat 0).toNat) dnod).value⟩ : Edt)].length))).length)))) (H' := [.row .nod x1 false, .dead, .row .int x59 true, .row .edt [(⟨0, s110, (x1.getD ((x59.getD i82.toNat 0).toNat) dnod).value⟩ : Edt)] true, .row .edt (x81 ++ (([(⟨0, s110, (x1.getD ((x59.getD i82.toNat 0).toNat) dnod).value⟩ : Edt)].drop 0).take ([(⟨0, s110, (x1.getD ((x59.getD i82.toNat 0).toNat) dnod).value⟩ : Edt)].length))) true]) rfl rfl (by kernel_rfl) hg114 rfl (And.intro rfl (And.intro rfl (trivial))) ?_
        refine WD_all [18] (n := 0) (by kernel_rfl) rfl ?_
        refine WM_op (φ := True) (v := .one (.e (.sl 4 0 ((x81 ++ (([(⟨0, s110, (x1.getD ((x59.getD i82.toNat 0).toNat) dnod).value⟩ : Edt)].drop 0).take ([(⟨0, s110, (x1.getD ((x59.getD i82.toNat 0).toNat) dnod).value⟩ : Edt)].length))).length)))) (H' := [.row .nod x1 false, .dead, .row .int x59 true, .row .edt [(⟨0, s110, (x1.getD ((x59.getD i82.toNat 0).toNat) dnod).value⟩ : Edt)] true, .row .edt (x81 ++ (([(⟨0, s110, (x1.getD ((x59.getD i82.toNat 0).toNat) dnod).value⟩ : Edt)].drop 0).take ([(⟨0, s110, (x1.getD ((x59.getD i82.toNat 0).toNat) dnod).value⟩ : Edt)].length))) true]) rfl rfl (by kernel_rfl) trivial rfl (And.intro rfl (And.intro rfl (trivial))) ?_
        exact WD_done [0, 4, 2] [0, 3, 4, 5] (st' := ⟨[(0, .one (.e (.sl 0 0 x1.length))), (3, .one (.e (.sl 1 0 ((x81 ++ (([(⟨0, s110, (x1.getD ((x59.getD i82.toNat 0).toNat) dnod).value⟩ : Edt)].drop 0).take ([(⟨0, s110, (x1.getD ((x59.getD i82.toNat 0).toNat) dnod).value⟩ : Edt)].length))).length)))), (4, .one (.e (.sl 2 0 x59.length))), (5, I i82)], [.row .nod x1 false, .row .edt (x81 ++ (([(⟨0, s110, (x1.getD ((x59.getD i82.toNat 0).toNat) dnod).value⟩ : Edt)].drop 0).take ([(⟨0, s110, (x1.getD ((x59.getD i82.toNat 0).toNat) dnod).value⟩ : Edt)].length))) true, .row .int x59 true]⟩) (by kernel_rfl) (by kernel_rfl) (And.intro rfl rfl)
      · rintro _ _ ⟨rfl, rfl⟩
        refine blockS_n ?_
        refine thenS_n ?_
        refine W_region ?_
        refine WO_step 3 [0, 1, 2] [0, 3, 4, 5] (True ∧ True) ⟨[(0, .one (.e (.sl 0 0 x1.length))), (3, .one (.e (.sl 1 0 ((x81 ++ (([(⟨0, s110, (x1.getD ((x59.getD i82.toNat 0).toNat) dnod).value⟩ : Edt)].drop 0).take ([(⟨0, s110, (x1.getD ((x59.getD i82.toNat 0).toNat) dnod).value⟩ : Edt)].length))).length)))), (4, .one (.e (.sl 2 0 x59.length))), (5, I (w64 (i82 + 1)))], [.row .nod x1 false, .row .edt (x81 ++ (([(⟨0, s110, (x1.getD ((x59.getD i82.toNat 0).toNat) dnod).value⟩ : Edt)].drop 0).take ([(⟨0, s110, (x1.getD ((x59.getD i82.toNat 0).toNat) dnod).value⟩ : Edt)].length))) true, .row .int x59 true]⟩ (by kernel_rfl) ⟨trivial, trivial⟩ ?_
        refine WO_nil rfl ?_
        refine thenS_n ?_
        exact ih _ _ h
    · refine W_sub [0, 1] [3] (st' := ⟨[(3, .one (.e (.sl 1 0 x81.length)))], [.row .nod x1 false, .row .edt x81 true]⟩) (by kernel_rfl) ?_
      refine W_exit ?_
      refine thenS_e ?_
      refine thenS_e ?_
      cases h
      exact And.intro rfl rfl

def spec_entries (n : Nat) (x1 : List Nod) : Option ((List Edt)) :=
 bindO (spec_walk n x1 0) fun x59 =>
 bindO (spec_entries_L1 x1 x59 n ([] : List Edt) 0) fun x99 =>
 some x99

theorem spec_entries_ok (n : Nat) (x1 : List Nod) (x58 : List Edt) (h : spec_entries n x1 = some x58) : FOk EE 18 [.one (.e (.sl 0 0 x1.length))] [.row .nod x1 false] (.one (.e (.sl 1 0 x58.length))) [.row .nod x1 false, .row .edt x58 true] := by
  unfold spec_entries at h
  refine FOk_of_W 34 1 Try.func18 rfl rfl (Nat.le_of_ble_eq_true rfl) rfl (fun w X θ => ?_)
  refine W_seq ?_
  refine W_region ?_
  refine WO_step 1 [0] [0] True ⟨[(0, .one (.e (.sl 0 0 x1.length)))], [.row .nod x1 false]⟩ (by kernel_rfl) trivial ?_
  refine WO_nil rfl ?_
  refine thenS_n ?_
  refine W_seq ?_
  refine W_region ?_
  refine WO_step 2 [0, 1] [0, 3] True ⟨[(0, .one (.e (.sl 0 0 x1.length))), (3, .one (.e (.sl 1 0 (([] : List Edt).length))))], [.row .nod x1 false, .row .edt ([] : List Edt) true]⟩ (by kernel_rfl) trivial ?_
  refine WO_nil rfl ?_
  refine thenS_n ?_
  refine W_seq ?_
  refine W_region ?_
  refine WO_step 1 [0, 1] [0, 3, 7] True ⟨[(0, .one (.e (.sl 0 0 x1.length))), (3, .one (.e (.sl 1 0 (([] : List Edt).length)))), (7, .one (.e (.sl 0 0 x1.length)))], [.row .nod x1 false, .row .edt ([] : List Edt) true]⟩ (by kernel_rfl) trivial ?_
  refine bindO_e h (fun x59 hc60 h => ?_)
  refine WO_call [.ro 0] Try.f37 rfl rfl rfl (by kernel_rfl) rfl rfl (by kernel_rfl) (spec_walk_ok n x1 0 x59 hc60) (And.intro (And.intro rfl rfl) (trivial)) rfl ?_
  refine WO_step 1 [0, 1, 2] [0, 3, 4] True ⟨[(0, .one (.e (.sl 0 0 x1.length))), (3, .one (.e (.sl 1 0 (([] : List Edt).length)))), (4, .one (.e (.sl 2 0 x59.length)))], [.row .nod x1 false, .row .edt ([] : List Edt) true, .row .int x59 true]⟩ (by kernel_rfl) trivial ?_
  refine WO_nil rfl ?_
  refine thenS_n ?_
  refine W_seq ?_
  refine W_seq ?_
  refine W_region ?_
  refine WO_step 1 [0, 1, 2] [0, 3, 4, 5] True ⟨[(0, .one (.e (.sl 0 0 x1.length))), (3, .one (.e (.sl 1 0 (([] : List Edt).length)))), (4, .one (.e (.sl 2 0 x59.length))), (5, I 0)], [.row .nod x1 false, .row .edt ([] : List Edt) true, .row .int x59 true]⟩ (by kernel_rfl) trivial ?_
  refine WO_nil rfl ?_
  refine thenS_n ?_
  refine W_block ?_
  refine W_loop ?_
  refine bindO_e h (fun x99 hx99 h => ?_)
  refine WL_cut (spec_entries_L1_ok w X θ x1 x59 x99 n ([] : List Edt) 0 hx99) ?_
  rintro _ _ ⟨rfl, rfl⟩
  refine blockS_y ?_
  refine thenS_n ?_
  refine W_seq ?_
  refine W_region ?_
  refine WO_step 2 [0, 1] [2] True ⟨[(2, .one (.e (.sl 1 0 x99.length)))], [.row .nod x1 false, .row .edt x99 true]⟩ (by kernel_rfl) trivial ?_
  refine WO_nil rfl ?_
  refine thenS_n ?_
  refine W_ret ?_
  cases h
  exact ⟨[0, 1], True, by kernel_rfl, trivial⟩

/- spec.SameTree -/
def spec_SameTree_L1 (x72 : List Edt) (x74 : List Edt) (x1 : List Nod) (x2 : List Nod) : Nat → Int → Option ((Unit) ⊕ (Unit))
| 0, _ => none
| n + 1, i89 =>
 iteO (decide (i89 < ((x72.length : Nat) : Int)))
 (guardO (0 ≤ i89 ∧ i89 < ((x72.length : Nat) : Int)) <|
 guardO (0 ≤ i89 ∧ i89 < ((x74.length : Nat) : Int)) <|
 iteO (!((decide (((x72.getD i89.toNat dedt).kind) = ((x74.getD i89.toNat dedt).kind))) && ((decide (((x72.getD i89.toNat dedt).path) = ((x74.getD i89.toNat dedt).path))) && ((decide (((x72.getD i89.toNat dedt).value) = ((x74.getD i89.toNat dedt).value))) && true))))
 (some (.inl ()))
 (spec_SameTree_L1 x72 x74 x1 x2 n (w64 (i89 + 1))))
 (some (.inr ()))

theorem spec_SameTree_L1_ok (w : World) (X : Nat → Prop) (θ : List Loc) (x72 : List Edt) (x74 : List Edt) (x1 : List Nod) (x2 : List Nod) (v : (Unit) ⊕ (Unit)) : ∀ (n : Nat) (i89 : Int), spec_SameTree_L1 x72 x74 x1 x2 n i89 = some v → WL EE ⟨w, X, θ, 42, 2⟩ (subC [1, 1, 1, 1, 0, 1, 4, 4] (bodyC Try.f8)) (fun (e : Exit) (s : St) => (match v with | (.inl _) => e = .ret ∧ s = ⟨[(4, B false)], [.row .nod x1 false, .row .nod x2 false]⟩ | (.inr _) => e = .exit 0 ∧ s = ⟨[], [.row .nod x1 false, .row .nod x2 false]⟩ : Prop)) ⟨[(5, .one (.e (.sl 2 0 x72.length))), (6, .one (.e (.sl 3 0 x74.length))), (7, I i89)], [.row .nod x1 false, .row .nod x2 false, .row .edt x72 true, .row .edt x74 true]⟩ := by
  intro n
  induction n with
  | zero => intro _ h; exact none_e h
  | succ n ih =>
    intro i89 h
    rw [spec_SameTree_L1] at h
    refine WL_round ?_
    refine W_seq ?_
    refine W_seq ?_
    refine W_region ?_
    refine WO_step 4 [0, 1, 2, 3] [5, 6, 7, 30] (True ∧ (True ∧ True)) ⟨[(5, .one (.e (.sl 2 0 x72.length))), (6, .one (.e (.sl 3 0 x74.length))), (7, I i89), (30, B (decide (i89 < ((x72.length : Nat) : Int))))], [.row .nod x1 false, .row .nod x2 false, .row .edt x72 true, .row .edt x74 true]⟩ (by kernel_rfl) ⟨trivial, trivial, trivial⟩ ?_
    refine WO_nil rfl ?_
    refine thenS_n ?_
    refine iteO_e h (fun hb103 h => W_true rfl hb103 ?_) (fun hb103 h => W_false rfl hb103 ?_)
    · refine W_sub [0, 1, 2, 3] [5, 6, 7] (st' := ⟨[(5, .one (.e (.sl 2 0 x72.length))), (6, .one (.e (.sl 3 0 x74.length))), (7, I i89)], [.row .nod x1 false, .row .nod x2 false, .row .edt x72 true, .row .edt x74 true]⟩) (by kernel_rfl) ?_
      refine W_skip ?_
      refine thenS_n ?_
      refine W_seq ?_
      refine W_block ?_
      refine W_seq ?_
      refine guardO_e h (fun hg108 h => ?_)
      refine guardO_e h (fun hg109 h => ?_)
      refine W_cut (Q' := fun (e : Exit) (s : St) => e = .normal ∧ s = ⟨[(5, .one (.e (.sl 2 0 x72.length))), (6, .one (.e (.sl 3 0 x74.length))), (7, I i89), (41, B (!((decide (((x72.getD i89.toNat dedt).kind) = ((x74.getD i89.toNat dedt).kind))) && ((decide (((x72.getD i89.toNat dedt).path) = ((x74.getD i89.toNat dedt).path))) && ((decide (((x72.getD i89.toNat dedt).value) = ((x74.getD i89.toNat dedt).value))) && true)))))], [.row .nod x1 false, .row .nod x2 false, .row .edt x72 true, .row .edt x74 true]⟩) ?_ ?_
      · refine W_draw [] true (by kernel_rfl) (by kernel_rfl) ?_
        refine WD_takeK [0, 1, 2, 3, 4, 5, 6, 7, 8] [5, 6, 7, 41] [5, 6, 7, 41] (φ := ((0 ≤ i89 ∧ i89 < ((x72.length : Nat) : Int)) ∧ (0 ≤ i89 ∧ i89 < ((x72.length : Nat) : Int)) ∧ (True ∧ True ∧ ((0 ≤ i89 ∧ i89 < ((x74.length : Nat) : Int)) ∧ (0 ≤ i89 ∧ i89 < ((x74.length : Nat) : Int)) ∧ (True ∧ True ∧ (True ∧ True ∧ True)))))) (ls' := #[true, true, true, true, true, true, true, true, true]) (Ts' := [(5, .one (.e (.sl 2 0 x72.length))), (6, .one (.e (.sl 3 0 x74.length))), (7, I i89), (41, B (!((decide (((x72.getD i89.toNat dedt).kind) = ((x74.getD i89.toNat dedt).kind))) && ((decide (((x72.getD i89.toNat dedt).path) = ((x74.getD i89.toNat dedt).path))) && ((decide (((x72.getD i89.toNat dedt).value) = ((x74.getD i89.toNat dedt).value))) && true)))))]) (st' := ⟨[(5, .one (.e (.sl 2 0 x72.length))), (6, .one (.e (.sl 3 0 x74.length))), (7, I i89), (41, B (!((decide (((x72.getD i89.toNat dedt).kind) = ((x74.getD i89.toNat dedt).kind))) && ((decide (((x72.getD i89.toNat dedt).path) = ((x74.getD i89.toNat dedt).path))) && ((decide (((x72.getD i89.toNat dedt).value) = ((x74.getD i89.toNat dedt).value))) && true)))))], [.row .nod x1 false, .row .nod x2 false, .row .edt x72 true, .row .edt x74 true]⟩) (n2 := 0) (by kernel_rfl) ⟨hg108, hg108, trivial, trivial, hg109, hg109, trivial, trivial, trivial, trivial, trivial⟩ rfl ?_
        exact WD_done [0, 1, 2, 3] [5, 6, 7, 41] (st' := ⟨[(5, .one (.e (.sl 2 0 x72.length))), (6, .one (.e (.sl 3 0 x74.length))), (7, I i89), (41, B (!((decide (((x72.getD i89.toNat dedt).kind) = ((x74.getD i89.toNat dedt).kind))) && ((decide (((x72.getD i89.toNat dedt).path) = ((x74.getD i89.toNat dedt).path))) && ((decide (((x72.getD i89.toNat dedt).value) = ((x74.getD i89.toNat dedt).value))) && true)))))], [.row .nod x1 false, .row .nod x2 false, .row .edt x72 true, .row .edt x74 true]⟩) (by kernel_rfl) (by kernel_rfl) (And.intro rfl rfl)
      · rintro _ _ ⟨rfl, rfl⟩
        refine thenS_n ?_
        refine iteO_e h (fun hb111 h => W_true rfl hb111 ?_) (fun hb111 h => W_false rfl hb111 ?_)
        · refine W_seq ?_
          refine W_region ?_
          refine WO_step 1 [0, 1] [4] True ⟨[(4, B false)], [.row .nod x1 false, .row .nod x2 false]⟩ (by kernel_rfl) trivial ?_
          refine WO_nil rfl ?_
          refine thenS_n ?_
          refine W_ret ?_
          refine blockS_r ?_
          refine thenS_r ?_
          refine thenS_r ?_
          cases h
          exact And.intro rfl rfl
        · refine W_sub [0, 1, 2, 3] [5, 6, 7] (st' := ⟨[(5, .one (.e (.sl 2 0 x72.length))), (6, .one (.e (.sl 3 0 x74.length))), (7, I i89)], [.row .nod x1 false, .row .nod x2 false, .row .edt x72 true, .row .edt x74 true]⟩) (by kernel_rfl) ?_
          refine W_skip ?_
          refine blockS_n ?_
          refine thenS_n ?_
          refine W_region ?_
          refine WO_step 3 [0, 1, 2, 3] [5, 6, 7] (True ∧ True) ⟨[(5, .one (.e (.sl 2 0 x72.length))), (6, .one (.e (.sl 3 0 x74.length))), (7, I (w64 (i89 + 1)))], [.row .nod x1 false, .row .nod x2 false, .row .edt x72 true, .row .edt x74 true]⟩ (by kernel_rfl) ⟨trivial, trivial⟩ ?_
          refine WO_nil rfl ?_
          refine thenS_n ?_
          exact ih _ h
    · refine W_sub [0, 1] [] (st' := ⟨[], [.row .nod x1 false, .row .nod x2 false]⟩) (by kernel_rfl) ?_
      refine W_exit ?_
      refine thenS_e ?_
      refine thenS_e ?_
      cases h
      exact And.intro rfl rfl

def spec_SameTree (n : Nat) (x1 : List Nod) (x2 : List Nod) : Option (Bool) :=
 bindO (spec_validTree n x1) fun b58 =>
 bindO (iteO (!b58)
 (some true)
 (bindO (spec_validTree n x2) fun b67 =>
 iteO (!b67)
 (some true)
 (some (!decide (((x1.length : Nat) : Int) = ((x2.length : Nat) : Int)))))) fun b64 =>
 iteO b64
 (some false)
 (bindO (spec_entries n x1) fun x72 =>
 bindO (spec_entries n x2) fun x74 =>
 bindO (spec_SameTree_L1 x72 x74 x1 x2 n 0) fun v112 =>
 match v112 with
 | (.inl _) => (some false)
 | (.inr _) => (some true)
)

theorem spec_SameTree_ok (n : Nat) (x1 : List Nod) (x2 : List Nod) (b57 : Bool) (h : spec_SameTree n x1 x2 = some b57) : FOk EE 8 [.one (.e (.sl 0 0 x1.length)), .one (.e (.sl 1 0 x2.length))] [.row .nod x1 false, .row .nod x2 false] (B b57) [.row .nod x1 false, .row .nod x2 false] := by
  unfold spec_SameTree at h
  refine FOk_of_W 42 2 Try.func8 rfl rfl (Nat.le_of_ble_eq_true rfl) rfl (fun w X θ => ?_)
  refine W_seq ?_
  refine W_region ?_
  refine WO_step 1 [0, 1] [0, 1] True ⟨[(0, .one (.e (.sl 0 0 x1.length))), (1, .one (.e (.sl 1 0 x2.length)))], [.row .nod x1 false, .row .nod x2 false]⟩ (by kernel_rfl) trivial ?_
  refine WO_nil rfl ?_
  refine thenS_n ?_
  refine W_seq ?_
  refine W_seq ?_
  refine W_region ?_
  refine WO_step 1 [0, 1] [0, 1, 8] True ⟨[(0, .one (.e (.sl 0 0 x1.length))), (1, .one (.e (.sl 1 0 x2.length))), (8, .one (.e (.sl 0 0 x1.length)))], [.row .nod x1 false, .row .nod x2 false]⟩ (by kernel_rfl) trivial ?_
  refine bindO_e h (fun b58 hc59 h => ?_)
  refine WO_call [.ro 0] Try.f17 rfl rfl rfl (by kernel_rfl) rfl rfl (by kernel_rfl) (spec_validTree_ok n x1 b58 hc59) (And.intro (And.intro rfl rfl) (trivial)) rfl ?_
  refine WO_step 2 [0, 1] [0, 1, 11] True ⟨[(0, .one (.e (.sl 0 0 x1.length))), (1, .one (.e (.sl 1 0 x2.length))), (11, B (!b58))], [.row .nod x1 false, .row .nod x2 false]⟩ (by kernel_rfl) trivial ?_
  refine bindO_e h (fun b64 hv65 h => ?_)
  refine WO_thru ⟨[(0, .one (.e (.sl 0 0 x1.length))), (1, .one (.e (.sl 1 0 x2.length))), (22, B b64)], [.row .nod x1 false, .row .nod x2 false]⟩ ?_ ?_
  · refine iteO_e hv65 (fun hb66 hv65 => WO_known 11 true rfl hb66 ?_) (fun hb66 hv65 => WO_known 11 false rfl hb66 ?_)
    · refine WO_step 11 [0, 1] [0, 1, 22] True ⟨[(0, .one (.e (.sl 0 0 x1.length))), (1, .one (.e (.sl 1 0 x2.length))), (22, B true)], [.row .nod x1 false, .row .nod x2 false]⟩ (by kernel_rfl) trivial ?_
      cases hv65
      exact WO_nil rfl ⟨rfl, rfl⟩
    · refine WO_step 1 [0, 1] [0, 1, 11, 12] True ⟨[(0, .one (.e (.sl 0 0 x1.length))), (1, .one (.e (.sl 1 0 x2.length))), (11, B false), (12, .one (.e (.sl 1 0 x2.length)))], [.row .nod x1 false, .row .nod x2 false]⟩ (by kernel_rfl) trivial ?_
      refine bindO_e hv65 (fun b67 hc68 hv65 => ?_)
      refine WO_call [.ro 1] Try.f17 rfl rfl rfl (by kernel_rfl) rfl rfl (by kernel_rfl) (spec_validTree_ok n x2 b67 hc68) (And.intro (And.intro rfl rfl) (trivial)) rfl ?_
      refine WO_step 3 [0, 1] [0, 1, 16] True ⟨[(0, .one (.e (.sl 0 0 x1.length))), (1, .one (.e (.sl 1 0 x2.length))), (16, B (!b67))], [.row .nod x1 false, .row .nod x2 false]⟩ (by kernel_rfl) trivial ?_
      refine iteO_e hv65 (fun hb69 hv65 => WO_known 16 true rfl hb69 ?_) (fun hb69 hv65 => WO_known 16 false rfl hb69 ?_)
      · refine WO_step 6 [0, 1] [0, 1, 22] True ⟨[(0, .one (.e (.sl 0 0 x1.length))), (1, .one (.e (.sl 1 0 x2.length))), (22, B true)], [.row .nod x1 false, .row .nod x2 false]⟩ (by kernel_rfl) trivial ?_
        cases hv65
        exact WO_nil rfl ⟨rfl, rfl⟩
      · refine WO_step 6 [0, 1] [0, 1, 22] (True ∧ (True ∧ (True ∧ True))) ⟨[(0, .one (.e (.sl 0 0 x1.length))), (1, .one (.e (.sl 1 0 x2.length))), (22, B (!decide (((x1.length : Nat) : Int) = ((x2.length : Nat) : Int))))], [.row .nod x1 false, .row .nod x2 false]⟩ (by kernel_rfl) ⟨trivial, trivial, trivial, trivial⟩ ?_
        cases hv65
        exact WO_nil rfl ⟨rfl, rfl⟩
  · refine thenS_n ?_
    refine iteO_e h (fun hb71 h => W_true rfl hb71 ?_) (fun hb71 h => W_false rfl hb71 ?_)
    · refine W_seq ?_
      refine W_region ?_
      refine WO_step 1 [0, 1] [4] True ⟨[(4, B false)], [.row .nod x1 false, .row .nod x2 false]⟩ (by kernel_rfl) trivial ?_
      refine WO_nil rfl ?_
      refine thenS_n ?_
      refine W_ret ?_
      refine thenS_r ?_
      cases h
      exact ⟨[0, 1], True, by kernel_rfl, trivial⟩
    · refine W_sub [0, 1] [0, 1] (st' := ⟨[(0, .one (.e (.sl 0 0 x1.length))), (1, .one (.e (.sl 1 0 x2.length)))], [.row .nod x1 false, .row .nod x2 false]⟩) (by kernel_rfl) ?_
      refine W_skip ?_
      refine thenS_n ?_
      refine W_seq ?_
      refine W_region ?_
      refine WO_step 1 [0, 1] [1, 23] True ⟨[(1, .one (.e (.sl 1 0 x2.length))), (23, .one (.e (.sl 0 0 x1.length)))], [.row .nod x1 false, .row .nod x2 false]⟩ (by kernel_rfl) trivial ?_
      refine bindO_e h (fun x72 hc73 h => ?_)
      refine WO_call [.ro 0] Try.f18 rfl rfl rfl (by kernel_rfl) rfl rfl (by kernel_rfl) (spec_entries_ok n x1 x72 hc73) (And.intro (And.intro rfl rfl) (trivial)) rfl ?_
      refine WO_step 1 [0, 1, 2] [1, 5] True ⟨[(1, .one (.e (.sl 1 0 x2.length))), (5, .one (.e (.sl 2 0 x72.length)))], [.row .nod x1 false, .row .nod x2 false, .row .edt x72 true]⟩ (by kernel_rfl) trivial ?_
      refine WO_nil rfl ?_
      refine thenS_n ?_
      refine W_seq ?_
      refine W_region ?_
      refine WO_step 1 [0, 1, 2] [5, 25] True ⟨[(5, .one (.e (.sl 2 0 x72.length))), (25, .one (.e (.sl 1 0 x2.length)))], [.row .nod x1 false, .row .nod x2 false, .row .edt x72 true]⟩ (by kernel_rfl) trivial ?_
      refine bindO_e h (fun x74 hc75 h => ?_)
      refine WO_call [.ro 1] Try.f18 rfl rfl rfl (by kernel_rfl) rfl rfl (by kernel_rfl) (spec_entries_ok n x2 x74 hc75) (And.intro (And.intro rfl rfl) (trivial)) rfl ?_
      refine WO_step 1 [0, 1, 2, 3] [5, 6] True ⟨[(5, .one (.e (.sl 2 0 x72.length))), (6, .one (.e (.sl 3 0 x74.length)))], [.row .nod x1 false, .row .nod x2 false, .row .edt x72 true, .row .edt x74 true]⟩ (by kernel_rfl) trivial ?_
      refine WO_nil rfl ?_
      refine thenS_n ?_
      refine W_seq ?_
      refine W_seq ?_
      refine W_region ?_
      refine WO_step 1 [0, 1, 2, 3] [5, 6, 7] True ⟨[(5, .one (.e (.sl 2 0 x72.length))), (6, .one (.e (.sl 3 0 x74.length))), (7, I 0)], [.row .nod x1 false, .row .nod x2 false, .row .edt x72 true, .row .edt x74 true]⟩ (by kernel_rfl) trivial ?_
      refine WO_nil rfl ?_
      refine thenS_n ?_
      refine W_block ?_
      refine W_loop ?_
      refine bindO_e h (fun v112 hv112 h => ?_)
      refine WL_cut (spec_SameTree_L1_ok w X θ x72 x74 x1 x2 v112 n 0 hv112) ?_
      rcases v112 with _ | _
      · rintro _ _ ⟨rfl, rfl⟩
        refine blockS_r ?_
        refine thenS_r ?_
        cases h
        exact ⟨[0, 1], True, by kernel_rfl, trivial⟩
      · rintro _ _ ⟨rfl, rfl⟩
        refine blockS_y ?_
        refine thenS_n ?_
        refine W_seq ?_
        refine W_region ?_
        refine WO_step 1 [0, 1] [4] True ⟨[(4, B true)], [.row .nod x1 false, .row .nod x2 false]⟩ (by kernel_rfl) trivial ?_
        refine WO_nil rfl ?_
        refine thenS_n ?_
        refine W_ret ?_
        cases h
        exact ⟨[0, 1], True, by kernel_rfl, trivial⟩

/- impl.within -/
def impl_within (i1 : Int) (i2 : Int) (i3 : Int) : Bool :=
((decide (i2 ≤ i1)) && (decide (i1 ≤ i3)))

theorem impl_within_ok (i1 : Int) (i2 : Int) (i3 : Int) : FOk EE 26 [I i1, I i2, I i3] [] (B (impl_within i1 i2 i3)) [] := by
  refine FOk_of_W 15 0 Try.func26 rfl rfl (Nat.le_of_ble_eq_true rfl) rfl (fun w X θ => ?_)
  refine W_seq ?_
  refine W_region ?_
  refine WO_step 1 [] [0, 1, 2] True ⟨[(0, I i1), (1, I i2), (2, I i3)], []⟩ (by kernel_rfl) trivial ?_
  refine WO_nil rfl ?_
  refine thenS_n ?_
  refine W_seq ?_
  refine W_region ?_
  refine WO_step 4 [] [0, 2, 10] (True ∧ True) ⟨[(0, I i1), (2, I i3), (10, B (decide (i2 ≤ i1)))], []⟩ (by kernel_rfl) ⟨trivial, trivial⟩ ?_
  refine WO_thru ⟨[(6, B ((decide (i2 ≤ i1)) && (decide (i1 ≤ i3))))], []⟩ ?_ ?_
  · refine WO_if 10 rfl (fun hb10 => ?_) (fun hb10 => ?_)
    · refine WO_step 5 [] [6] (True ∧ True) ⟨[(6, B (decide (i1 ≤ i3)))], []⟩ (by kernel_rfl) ⟨trivial, trivial⟩ ?_
      exact WO_nil rfl ⟨rfl, by first | rfl | (rw [hb10]; first | done | rfl)⟩
    · refine WO_step 5 [] [6] True ⟨[(6, B false)], []⟩ (by kernel_rfl) trivial ?_
      exact WO_nil rfl ⟨rfl, by first | rfl | (rw [hb10]; first | done | rfl)⟩
  · refine thenS_n ?_
    refine W_ret ?_
    exact ⟨[], True, by kernel_rfl, trivial⟩

/- impl.isName -/
def impl_isName_L1 (s1 : Str) : Nat → Int → Option ((Unit) ⊕ (Unit))
| 0, _ => none
| n + 1, i96 =>
 iteO (decide (i96 < ((s1.length : Nat) : Int)))
 (guardO (0 ≤ i96 ∧ i96 < ((s1.length : Nat) : Int)) <|
 bindO (iteO (decide (((s1.getD i96.toNat 0).toNat : Int) < 97))
 (some true)
 (guardO (0 ≤ i96 ∧ i96 < ((s1.length : Nat) : Int)) <|
 some (decide (122 < ((s1.getD i96.toNat 0).toNat : Int))))) fun b133 =>
 iteO b133
 (some (.inl ()))
 (impl_isName_L1 s1 n (w64 (i96 + 1))))
 (some (.inr ()))

theorem impl_isName_L1_ok (w : World) (X : Nat → Prop) (θ : List Loc) (s1 : Str) (v : (Unit) ⊕ (Unit)) : ∀ (n : Nat) (i96 : Int), impl_isName_L1 s1 n i96 = some v → WL EE ⟨w, X, θ, 24, 0⟩ (subC [1, 1, 0, 1, 4, 4] (bodyC Try.f27)) (fun (e : Exit) (s : St) => (match v with | (.inl _) => e = .ret ∧ s = ⟨[(2, B false)], []⟩ | (.inr _) => e = .exit 0 ∧ s = ⟨[], []⟩ : Prop)) ⟨[(0, S s1), (9, I ((s1.length : Nat) : Int)), (10, I i96)], []⟩ := by
  intro n
  induction n with
  | zero => intro _ h; exact none_e h
  | succ n ih =>
    intro i96 h
    rw [impl_isName_L1] at h
    refine WL_round ?_
    refine W_seq ?_
    refine W_region ?_
    refine WO_step 1 [] [0, 9, 10, 11] (True ∧ True) ⟨[(0, S s1), (9, I ((s1.length : Nat) : Int)), (10, I i96), (11, B (decide (i96 < ((s1.length : Nat) : Int))))], []⟩ (by kernel_rfl) ⟨trivial, trivial⟩ ?_
    refine WO_nil rfl ?_
    refine thenS_n ?_
    refine W_seq ?_
    refine iteO_e h (fun hb120 h => W_true rfl hb120 ?_) (fun hb120 h => W_false rfl hb120 ?_)
    · refine W_sub [] [0, 9, 10] (st' := ⟨[(0, S s1), (9, I ((s1.length : Nat) : Int)), (10, I i96)], []⟩) (by kernel_rfl) ?_
      refine W_skip ?_
      refine thenS_n ?_
      refine W_seq ?_
      refine W_block ?_
      refine W_seq ?_
      refine W_region ?_
      refine WO_step 2 [] [0, 3, 9, 10] True ⟨[(0, S s1), (3, I i96), (9, I ((s1.length : Nat) : Int)), (10, I i96)], []⟩ (by kernel_rfl) trivial ?_
      refine WO_nil rfl ?_
      refine thenS_n ?_
      refine W_seq ?_
      refine W_region ?_
      refine guardO_e h (fun hg130 h => ?_)
      refine WO_step 5 [] [0, 3, 9, 10, 17] ((0 ≤ i96 ∧ i96 < ((s1.length : Nat) : Int)) ∧ (True ∧ True)) ⟨[(0, S s1), (3, I i96), (9, I ((s1.length : Nat) : Int)), (10, I i96), (17, B (decide (((s1.getD i96.toNat 0).toNat : Int) < 97)))], []⟩ (by kernel_rfl) ⟨hg130, trivial, trivial⟩ ?_
      refine bindO_e h (fun b133 hv134 h => ?_)
      refine WO_thru ⟨[(0, S s1), (9, I ((s1.length : Nat) : Int)), (10, I i96), (22, B b133)], []⟩ ?_ ?_
      · refine iteO_e hv134 (fun hb135 hv134 => WO_known 17 true rfl hb135 ?_) (fun hb135 hv134 => WO_known 17 false rfl hb135 ?_)
        · refine WO_step 5 [] [0, 9, 10, 22] True ⟨[(0, S s1), (9, I ((s1.length : Nat) : Int)), (10, I i96), (22, B true)], []⟩ (by kernel_rfl) trivial ?_
          cases hv134
          exact WO_nil rfl ⟨rfl, rfl⟩
        · refine guardO_e hv134 (fun hg136 hv134 => ?_)
          refine WO_step 5 [] [0, 9, 10, 22] ((0 ≤ i96 ∧ i96 < ((s1.length : Nat) : Int)) ∧ (True ∧ True)) ⟨[(0, S s1), (9, I ((s1.length : Nat) : Int)), (10, I i96), (22, B (decide (122 < ((s1.getD i96.toNat 0).toNat : Int))))], []⟩ (by kernel_rfl) ⟨hg136, trivial, trivial⟩ ?_
          cases hv134
          exact WO_nil rfl ⟨rfl, rfl⟩
      · refine thenS_n ?_
        refine iteO_e h (fun hb138 h => W_true rfl hb138 ?_) (fun hb138 h => W_false rfl hb138 ?_)
        · refine W_seq ?_
          refine W_region ?_
          refine WO_step 1 [] [2] True ⟨[(2, B false)], []⟩ (by kernel_rfl) trivial ?_
          refine WO_nil rfl ?_
          refine thenS_n ?_
          refine W_ret ?_
          refine blockS_r ?_
          refine thenS_r ?_
          refine thenS_r ?_
          cases h
          exact And.intro rfl rfl
        · refine W_sub [] [0, 9, 10] (st' := ⟨[(0, S s1), (9, I ((s1.length : Nat) : Int)), (10, I i96)], []⟩) (by kernel_rfl) ?_
          refine W_skip ?_
          refine blockS_n ?_
          refine thenS_n ?_
          refine W_region ?_
          refine WO_step 2 [] [0, 9, 10] (True ∧ True) ⟨[(0, S s1), (9, I ((s1.length : Nat) : Int)), (10, I (w64 (i96 + 1)))], []⟩ (by kernel_rfl) ⟨trivial, trivial⟩ ?_
          refine WO_nil rfl ?_
          refine thenS_n ?_
          exact ih _ h
    · refine W_sub [] [] (st' := ⟨[], []⟩) (by kernel_rfl) ?_
      refine W_exit ?_
      refine thenS_e ?_
      refine thenS_e ?_
      cases h
      exact And.intro rfl rfl

def impl_isName (n : Nat) (s1 : Str) : Option (Bool) :=
 iteO (!(impl_within ((s1.length : Nat) : Int) 1 4))
 (some false)
 (bindO (impl_isName_L1 s1 n 0) fun v139 =>
 match v139 with
 | (.inl _) => (some false)
 | (.inr _) => (some true)
)

theorem impl_isName_ok (n : Nat) (s1 : Str) (b70 : Bool) (h : impl_isName n s1 = some b70) : FOk EE 27 [S s1] [] (B b70) [] := by
  unfold impl_isName at h
  refine FOk_of_W 24 0 Try.func27 rfl rfl (Nat.le_of_ble_eq_true rfl) rfl (fun w X θ => ?_)
  refine W_seq ?_
  refine W_region ?_
  refine WO_step 1 [] [0] True ⟨[(0, S s1)], []⟩ (by kernel_rfl) trivial ?_
  refine WO_nil rfl ?_
  refine thenS_n ?_
  refine W_seq ?_
  refine W_seq ?_
  refine W_region ?_
  refine WO_step 2 [] [0, 5] (True ∧ True) ⟨[(0, S s1), (5, I ((s1.length : Nat) : Int))], []⟩ (by kernel_rfl) ⟨trivial, trivial⟩ ?_
  refine WO_call [] Try.f26 rfl rfl rfl (by kernel_rfl) rfl rfl (by kernel_rfl) (impl_within_ok ((s1.length : Nat) : Int) 1 4) (trivial) rfl ?_
  refine WO_step 1 [] [0, 7] True ⟨[(0, S s1), (7, B (!(impl_within ((s1.length : Nat) : Int) 1 4)))], []⟩ (by kernel_rfl) trivial ?_
  refine WO_nil rfl ?_
  refine thenS_n ?_
  refine iteO_e h (fun hb72 h => W_true rfl hb72 ?_) (fun hb72 h => W_false rfl hb72 ?_)
  · refine W_seq ?_
    refine W_region ?_
    refine WO_step 1 [] [2] True ⟨[(2, B false)], []⟩ (by kernel_rfl) trivial ?_
    refine WO_nil rfl ?_
    refine thenS_n ?_
    refine W_ret ?_
    refine thenS_r ?_
    cases h
    exact ⟨[], True, by kernel_rfl, trivial⟩
  · refine W_sub [] [0] (st' := ⟨[(0, S s1)], []⟩) (by kernel_rfl) ?_
    refine W_skip ?_
    refine thenS_n ?_
    refine W_seq ?_
    refine W_seq ?_
    refine W_region ?_
    refine WO_step 3 [] [0, 9, 10] (True ∧ True) ⟨[(0, S s1), (9, I ((s1.length : Nat) : Int)), (10, I 0)], []⟩ (by kernel_rfl) ⟨trivial, trivial⟩ ?_
    refine WO_nil rfl ?_
    refine thenS_n ?_
    refine W_block ?_
    refine W_loop ?_
    refine bindO_e h (fun v139 hv139 h => ?_)
    refine WL_cut (impl_isName_L1_ok w X θ s1 v139 n 0 hv139) ?_
    rcases v139 with _ | _
    · rintro _ _ ⟨rfl, rfl⟩
      refine blockS_r ?_
      refine thenS_r ?_
      cases h
      exact ⟨[], True, by kernel_rfl, trivial⟩
    · rintro _ _ ⟨rfl, rfl⟩
      refine blockS_y ?_
      refine thenS_n ?_
      refine W_seq ?_
      refine W_region ?_
      refine WO_step 1 [] [2] True ⟨[(2, B true)], []⟩ (by kernel_rfl) trivial ?_
      refine WO_nil rfl ?_
      refine thenS_n ?_
      refine W_ret ?_
      cases h
      exact ⟨[], True, by kernel_rfl, trivial⟩

/- impl.kidIn -/
def impl_kidIn_L1 (i2 : Int) (s3 : Str) (x1 : List Nod) : Nat → Int → Option ((Int) ⊕ (Unit))
| 0, _ => none
| n + 1, i73 =>
 iteO (decide (i73 < ((x1.length : Nat) : Int)))
 (guardO (0 ≤ i73 ∧ i73 < ((x1.length : Nat) : Int)) <|
 iteO ((decide (((x1.getD i73.toNat dnod).parent) = i2)) && (decide (((x1.getD i73.toNat dnod).name) = s3)))
 (some (.inl i73))
 (impl_kidIn_L1 i2 s3 x1 n (w64 (i73 + 1))))
 (some (.inr ()))

theorem impl_kidIn_L1_ok (w : World) (X : Nat → Prop) (θ : List Loc) (i2 : Int) (s3 : Str) (x1 : List Nod) (v : (Int) ⊕ (Unit)) : ∀ (n : Nat) (i73 : Int), impl_kidIn_L1 i2 s3 x1 n i73 = some v → WL EE ⟨w, X, θ, 28, 1⟩ (subC [1, 0, 1, 4, 4] (bodyC Try.f28)) (fun (e : Exit) (s : St) => (match v with | (.inl i89) => e = .ret ∧ s = ⟨[(6, I i89)], [.row .nod x1 false]⟩ | (.inr _) => e = .exit 0 ∧ s = ⟨[], [.row .nod x1 false]⟩ : Prop)) ⟨[(1, I i2), (2, S s3), (9, .one (.e (.sl 0 0 x1.length))), (10, I ((x1.length : Nat) : Int)), (11, I i73)], [.row .nod x1 false]⟩ := by
  intro n
  induction n with
  | zero => intro _ h; exact none_e h
  | succ n ih =>
    intro i73 h
    rw [impl_kidIn_L1] at h
    refine WL_round ?_
    refine W_seq ?_
    refine W_region ?_
    refine WO_step 1 [0] [1, 2, 9, 10, 11, 12] (True ∧ True) ⟨[(1, I i2), (2, S s3), (9, .one (.e (.sl 0 0 x1.length))), (10, I ((x1.length : Nat) : Int)), (11, I i73), (12, B (decide (i73 < ((x1.length : Nat) : Int))))], [.row .nod x1 false]⟩ (by kernel_rfl) ⟨trivial, trivial⟩ ?_
    refine WO_nil rfl ?_
    refine thenS_n ?_
    refine W_seq ?_
    refine iteO_e h (fun hb92 h => W_true rfl hb92 ?_) (fun hb92 h => W_false rfl hb92 ?_)
    · refine W_sub [0] [1, 2, 9, 10, 11] (st' := ⟨[(1, I i2), (2, S s3), (9, .one (.e (.sl 0 0 x1.length))), (10, I ((x1.length : Nat) : Int)), (11, I i73)], [.row .nod x1 false]⟩) (by kernel_rfl) ?_
      refine W_skip ?_
      refine thenS_n ?_
      refine W_seq ?_
      refine W_block ?_
      refine W_seq ?_
      refine W_region ?_
      refine guardO_e h (fun hg99 h => ?_)
      refine WO_step 6 [0, 1] [1, 2, 7, 8, 9, 10, 11] ((0 ≤ i73 ∧ i73 < ((x1.length : Nat) : Int)) ∧ (True ∧ (True ∧ (True ∧ True)))) ⟨[(1, I i2), (2, S s3), (7, I i73), (8, .one (.e (.p 1 0))), (9, .one (.e (.sl 0 0 x1.length))), (10, I ((x1.length : Nat) : Int)), (11, I i73)], [.row .nod x1 false, .cells [cI ((x1.getD i73.toNat dnod).parent), cS ((x1.getD i73.toNat dnod).name), cI ((x1.getD i73.toNat dnod).value)]]⟩ (by kernel_rfl) ⟨hg99, trivial, trivial, trivial, trivial⟩ ?_
      refine WO_nil rfl ?_
      refine thenS_n ?_
      refine W_seq ?_
      refine W_region ?_
      refine WO_step 5 [0, 1] [1, 2, 7, 8, 9, 10, 11, 20] (True ∧ (True ∧ True)) ⟨[(1, I i2), (2, S s3), (7, I i73), (8, .one (.e (.p 1 0))), (9, .one (.e (.sl 0 0 x1.length))), (10, I ((x1.length : Nat) : Int)), (11, I i73), (20, B (decide (((x1.getD i73.toNat dnod).parent) = i2)))], [.row .nod x1 false, .cells [cI ((x1.getD i73.toNat dnod).parent), cS ((x1.getD i73.toNat dnod).name), cI ((x1.getD i73.toNat dnod).value)]]⟩ (by kernel_rfl) ⟨trivial, trivial, trivial⟩ ?_
      refine WO_thru ⟨[(1, I i2), (2, S s3), (7, I i73), (9, .one (.e (.sl 0 0 x1.length))), (10, I ((x1.length : Nat) : Int)), (11, I i73), (25, B ((decide (((x1.getD i73.toNat dnod).parent) = i2)) && (decide (((x1.getD i73.toNat dnod).name) = s3))))], [.row .nod x1 false]⟩ ?_ ?_
      · refine WO_if 20 rfl (fun hb102 => ?_) (fun hb102 => ?_)
        · refine WO_step 5 [0] [1, 2, 7, 9, 10, 11, 25] (True ∧ (True ∧ True)) ⟨[(1, I i2), (2, S s3), (7, I i73), (9, .one (.e (.sl 0 0 x1.length))), (10, I ((x1.length : Nat) : Int)), (11, I i73), (25, B (decide (((x1.getD i73.toNat dnod).name) = s3)))], [.row .nod x1 false]⟩ (by kernel_rfl) ⟨trivial, trivial, trivial⟩ ?_
          exact WO_nil rfl ⟨rfl, by first | rfl | (rw [hb102]; first | done | rfl)⟩
        · refine WO_step 5 [0] [1, 2, 7, 9, 10, 11, 25] True ⟨[(1, I i2), (2, S s3), (7, I i73), (9, .one (.e (.sl 0 0 x1.length))), (10, I ((x1.length : Nat) : Int)), (11, I i73), (25, B false)], [.row .nod x1 false]⟩ (by kernel_rfl) trivial ?_
          exact WO_nil rfl ⟨rfl, by first | rfl | (rw [hb102]; first | done | rfl)⟩
      · refine thenS_n ?_
        refine iteO_e h (fun hb104 h => W_true rfl hb104 ?_) (fun hb104 h => W_false rfl hb104 ?_)
        · refine W_seq ?_
          refine W_region ?_
          refine WO_step 2 [0] [6] True ⟨[(6, I i73)], [.row .nod x1 false]⟩ (by kernel_rfl) trivial ?_
          refine WO_nil rfl ?_
          refine thenS_n ?_
          refine W_ret ?_
          refine blockS_r ?_
          refine thenS_r ?_
          refine thenS_r ?_
          cases h
          exact And.intro rfl rfl
        · refine W_sub [0] [1, 2, 9, 10, 11] (st' := ⟨[(1, I i2), (2, S s3), (9, .one (.e (.sl 0 0 x1.length))), (10, I ((x1.length : Nat) : Int)), (11, I i73)], [.row .nod x1 false]⟩) (by kernel_rfl) ?_
          refine W_skip ?_
          refine blockS_n ?_
          refine thenS_n ?_
          refine W_region ?_
          refine WO_step 2 [0] [1, 2, 9, 10, 11] (True ∧ True) ⟨[(1, I i2), (2, S s3), (9, .one (.e (.sl 0 0 x1.length))), (10, I ((x1.length : Nat) : Int)), (11, I (w64 (i73 + 1)))], [.row .nod x1 false]⟩ (by kernel_rfl) ⟨trivial, trivial⟩ ?_
          refine WO_nil rfl ?_
          refine thenS_n ?_
          exact ih _ h
    · refine W_sub [0] [] (st' := ⟨[], [.row .nod x1 false]⟩) (by kernel_rfl) ?_
      refine W_exit ?_
      refine thenS_e ?_
      refine thenS_e ?_
      cases h
      exact And.intro rfl rfl

def impl_kidIn (n : Nat) (x1 : List Nod) (i2 : Int) (s3 : Str) : Option (Int) :=
 bindO (impl_kidIn_L1 i2 s3 x1 n 0) fun v105 =>
 match v105 with
 | (.inl i89) => (some i89)
 | (.inr _) => (some (-1))


theorem impl_kidIn_ok (n : Nat) (x1 : List Nod) (i2 : Int) (s3 : Str) (i54 : Int) (h : impl_kidIn n x1 i2 s3 = some i54) : FOk EE 28 [.one (.e (.sl 0 0 x1.length)), I i2, S s3] [.row .nod x1 false] (I i54) [.row .nod x1 false] := by
  unfold impl_kidIn at h
  refine FOk_of_W 28 1 Try.func28 rfl rfl (Nat.le_of_ble_eq_true rfl) rfl (fun w X θ => ?_)
  refine W_seq ?_
  refine W_region ?_
  refine WO_step 1 [0] [0, 1, 2] True ⟨[(0, .one (.e (.sl 0 0 x1.length))), (1, I i2), (2, S s3)], [.row .nod x1 false]⟩ (by kernel_rfl) trivial ?_
  refine WO_nil rfl ?_
  refine thenS_n ?_
  refine W_seq ?_
  refine W_seq ?_
  refine W_region ?_
  refine WO_step 3 [0] [1, 2, 9, 10, 11] (True ∧ True) ⟨[(1, I i2), (2, S s3), (9, .one (.e (.sl 0 0 x1.length))), (10, I ((x1.length : Nat) : Int)), (11, I 0)], [.row .nod x1 false]⟩ (by kernel_rfl) ⟨trivial, trivial⟩ ?_
  refine WO_nil rfl ?_
  refine thenS_n ?_
  refine W_block ?_
  refine W_loop ?_
  refine bindO_e h (fun v105 hv105 h => ?_)
  refine WL_cut (impl_kidIn_L1_ok w X θ i2 s3 x1 v105 n 0 hv105) ?_
  rcases v105 with i89 | _
  · rintro _ _ ⟨rfl, rfl⟩
    refine blockS_r ?_
    refine thenS_r ?_
    cases h
    exact ⟨[0], True, by kernel_rfl, trivial⟩
  · rintro _ _ ⟨rfl, rfl⟩
    refine blockS_y ?_
    refine thenS_n ?_
    refine W_seq ?_
    refine W_region ?_
    refine WO_step 1 [0] [6] True ⟨[(6, I (-1))], [.row .nod x1 false]⟩ (by kernel_rfl) trivial ?_
    refine WO_nil rfl ?_
    refine thenS_n ?_
    refine W_ret ?_
    cases h
    exact ⟨[0], True, by kernel_rfl, trivial⟩

/- impl.ValidTree -/
def impl_ValidTree_L1 (x1 : List Nod) : Nat → (List Int) → Int → Option ((Unit) ⊕ (Unit))
| 0, _, _ => none
| n + 1, x164, i165 =>
 iteO (decide (i165 < ((x1.length : Nat) : Int)))
 (bindO (guardO (0 ≤ i165 ∧ i165 < ((x1.length : Nat) : Int)) <|
 iteO (!(impl_within ((x1.getD i165.toNat dnod).value) (-1000) 1000))
 (some (.inl ()))
 (iteO (decide (i165 = 0))
 (some (.inr x164))
 (bindO (iteO (!(impl_within ((x1.getD i165.toNat dnod).parent) 0 (w64 (i165 - 1))))
 (some true)
 (bindO (impl_isName n ((x1.getD i165.toNat dnod).name)) fun b238 =>
 some (!b238))) fun b235 =>
 iteO b235
 (some (.inl ()))
 (guardO (0 ≤ i165 ∧ i165 ≤ ((x1.length : Nat) : Int)) <|
 bindO (impl_kidIn n ((x1.drop 0).take i165.toNat) ((x1.getD i165.toNat dnod).parent) ((x1.getD i165.toNat dnod).name)) fun i243 =>
 iteO (decide (0 ≤ i243))
 (some (.inl ()))
 (guardO (0 ≤ (x1.getD i165.toNat dnod).parent ∧ (x1.getD i165.toNat dnod).parent < ((x164.length : Nat) : Int)) <|
 guardO (0 ≤ i165 ∧ i165 < ((x164.length : Nat) : Int)) <|
 guardO (0 ≤ i165 ∧ i165 < (((x164.set i165.toNat (w64 ((x164.getD (((x1.getD i165.toNat dnod).parent).toNat) 0) + 1))).length : Nat) : Int)) <|
 iteO (decide (4 < ((x164.set i165.toNat (w64 ((x164.getD (((x1.getD i165.toNat dnod).parent).toNat) 0) + 1))).getD i165.toNat 0)))
 (some (.inl ()))
 (some (.inr (x164.set i165.toNat (w64 ((x164.getD (((x1.getD i165.toNat dnod).parent).toNat) 0) + 1))))))))) : Option ((Unit) ⊕ ((List Int)))) fun v226 =>
 match v226 with
 | (.inl _) => (some (.inl ()))
 | (.inr x225) => (impl_ValidTree_L1 x1 n x225 (w64 (i165 + 1)))
)
 (some (.inr ()))

theorem impl_ValidTree_L1_ok (w : World) (X : Nat → Prop) (θ : List Loc) (x1 : List Nod) (v : (Unit) ⊕ (Unit)) : ∀ (n : Nat) (x164 : List Int) (i165 : Int), impl_ValidTree_L1 x1 n x164 i165 = some v → WL EE ⟨w, X, θ, 78, 1⟩ (subC [1, 1, 1, 1, 0, 1, 4, 4] (bodyC Try.f13)) (fun (e : Exit) (s : St) => (match v with | (.inl _) => e = .ret ∧ s = ⟨[(2, B false)], [.row .nod x1 false]⟩ | (.inr _) => e = .exit 0 ∧ s = ⟨[], [.row .nod x1 false]⟩ : Prop)) ⟨[(0, .one (.e (.sl 0 0 x1.length))), (3, .one (.e (.sl 1 0 x164.length))), (29, .one (.e (.sl 0 0 x1.length))), (30, I ((x1.length : Nat) : Int)), (31, I i165)], [.row .nod x1 false, .row .int x164 true]⟩ := by
  intro n
  induction n with
  | zero => intro _ _ h; exact none_e h
  | succ n ih =>
    intro x164 i165 h
    rw [impl_ValidTree_L1] at h
    refine WL_round ?_
    refine W_seq ?_
    refine W_region ?_
    refine WO_step 1 [0, 1] [0, 3, 29, 30, 31, 32] (True ∧ True) ⟨[(0, .one (.e (.sl 0 0 x1.length))), (3, .one (.e (.sl 1 0 x164.length))), (29, .one (.e (.sl 0 0 x1.length))), (30, I ((x1.length : Nat) : Int)), (31, I i165), (32, B (decide (i165 < ((x1.length : Nat) : Int))))], [.row .nod x1 false, .row .int x164 true]⟩ (by kernel_rfl) ⟨trivial, trivial⟩ ?_
    refine WO_nil rfl ?_
    refine thenS_n ?_
    refine W_seq ?_
    refine iteO_e h (fun hb199 h => W_true rfl hb199 ?_) (fun hb199 h => W_false rfl hb199 ?_)
    · refine W_sub [0, 1] [0, 3, 29, 30, 31] (st' := ⟨[(0, .one (.e (.sl 0 0 x1.length))), (3, .one (.e (.sl 1 0 x164.length))), (29, .one (.e (.sl 0 0 x1.length))), (30, I ((x1.length : Nat) : Int)), (31, I i165)], [.row .nod x1 false, .row .int x164 true]⟩) (by kernel_rfl) ?_
      refine W_skip ?_
      refine thenS_n ?_
      refine W_seq ?_
      refine bindO_e h (fun v226 hv226 h => ?_)
      refine W_cut (Q' := fun (e : Exit) (s : St) => (match v226 with | (.inl _) => e = .ret ∧ s = ⟨[(2, B false)], [.row .nod x1 false]⟩ | (.inr x225) => e = .normal ∧ s = ⟨[(0, .one (.e (.sl 0 0 x1.length))), (3, .one (.e (.sl 1 0 x225.length))), (29, .one (.e (.sl 0 0 x1.length))), (30, I ((x1.length : Nat) : Int)), (31, I i165)], [.row .nod x1 false, .row .int x225 true]⟩ : Prop)) ?_ ?_
      · refine W_block ?_
        refine W_seq ?_
        refine W_region ?_
        refine guardO_e hv226 (fun hg227 hv226 => ?_)
        refine WO_step 6 [0, 1, 2] [0, 3, 4, 5, 29, 30, 31] ((0 ≤ i165 ∧ i165 < ((x1.length : Nat) : Int)) ∧ (True ∧ (True ∧ (True ∧ True)))) ⟨[(0, .one (.e (.sl 0 0 x1.length))), (3, .one (.e (.sl 1 0 x164.length))), (4, I i165), (5, .one (.e (.p 2 0))), (29, .one (.e (.sl 0 0 x1.length))), (30, I ((x1.length : Nat) : Int)), (31, I i165)], [.row .nod x1 false, .row .int x164 true, .cells [cI ((x1.getD i165.toNat dnod).parent), cS ((x1.getD i165.toNat dnod).name), cI ((x1.getD i165.toNat dnod).value)]]⟩ (by kernel_rfl) ⟨hg227, trivial, trivial, trivial, trivial⟩ ?_
        refine WO_nil rfl ?_
        refine thenS_n ?_
        refine W_seq ?_
        refine W_seq ?_
        refine W_region ?_
        refine WO_step 2 [0, 1, 2] [0, 3, 4, 5, 29, 30, 31, 37] (True ∧ True) ⟨[(0, .one (.e (.sl 0 0 x1.length))), (3, .one (.e (.sl 1 0 x164.length))), (4, I i165), (5, .one (.e (.p 2 0))), (29, .one (.e (.sl 0 0 x1.length))), (30, I ((x1.length : Nat) : Int)), (31, I i165), (37, I ((x1.getD i165.toNat dnod).value))], [.row .nod x1 false, .row .int x164 true, .cells [cI ((x1.getD i165.toNat dnod).parent), cS ((x1.getD i165.toNat dnod).name), cI ((x1.getD i165.toNat dnod).value)]]⟩ (by kernel_rfl) ⟨trivial, trivial⟩ ?_
        refine WO_call [] Try.f26 rfl rfl rfl (by kernel_rfl) rfl rfl (by kernel_rfl) (impl_within_ok ((x1.getD i165.toNat dnod).value) (-1000) 1000) (trivial) rfl ?_
        refine WO_step 1 [0, 1, 2] [0, 3, 4, 5, 29, 30, 31, 39] True ⟨[(0, .one (.e (.sl 0 0 x1.length))), (3, .one (.e (.sl 1 0 x164.length))), (4, I i165), (5, .one (.e (.p 2 0))), (29, .one (.e (.sl 0 0 x1.length))), (30, I ((x1.length : Nat) : Int)), (31, I i165), (39, B (!(impl_within ((x1.getD i165.toNat dnod).value) (-1000) 1000)))], [.row .nod x1 false, .row .int x164 true, .cells [cI ((x1.getD i165.toNat dnod).parent), cS ((x1.getD i165.toNat dnod).name), cI ((x1.getD i165.toNat dnod).value)]]⟩ (by kernel_rfl) trivial ?_
        refine WO_nil rfl ?_
        refine thenS_n ?_
        refine iteO_e hv226 (fun hb229 hv226 => W_true rfl hb229 ?_) (fun hb229 hv226 => W_false rfl hb229 ?_)
        · refine W_seq ?_
          refine W_region ?_
          refine WO_step 1 [0] [2] True ⟨[(2, B false)], [.row .nod x1 false]⟩ (by kernel_rfl) trivial ?_
          refine WO_nil rfl ?_
          refine thenS_n ?_
          refine W_ret ?_
          refine thenS_r ?_
          refine blockS_r ?_
          cases hv226
          exact And.intro rfl rfl
        · refine W_sub [0, 1, 2] [0, 3, 4, 5, 29, 30, 31] (st' := ⟨[(0, .one (.e (.sl 0 0 x1.length))), (3, .one (.e (.sl 1 0 x164.length))), (4, I i165), (5, .one (.e (.p 2 0))), (29, .one (.e (.sl 0 0 x1.length))), (30, I ((x1.length : Nat) : Int)), (31, I i165)], [.row .nod x1 false, .row .int x164 true, .cells [cI ((x1.getD i165.toNat dnod).parent), cS ((x1.getD i165.toNat dnod).name), cI ((x1.getD i165.toNat dnod).value)]]⟩) (by kernel_rfl) ?_
          refine W_skip ?_
          refine thenS_n ?_
          refine W_seq ?_
          refine W_seq ?_
          refine W_region ?_
          refine WO_step 2 [0, 1, 2] [0, 3, 4, 5, 29, 30, 31, 41] (True ∧ True) ⟨[(0, .one (.e (.sl 0 0 x1.length))), (3, .one (.e (.sl 1 0 x164.length))), (4, I i165), (5, .one (.e (.p 2 0))), (29, .one (.e (.sl 0 0 x1.length))), (30, I ((x1.length : Nat) : Int)), (31, I i165), (41, B (decide (i165 = 0)))], [.row .nod x1 false, .row .int x164 true, .cells [cI ((x1.getD i165.toNat dnod).parent), cS ((x1.getD i165.toNat dnod).name), cI ((x1.getD i165.toNat dnod).value)]]⟩ (by kernel_rfl) ⟨trivial, trivial⟩ ?_
          refine WO_nil rfl ?_
          refine thenS_n ?_
          refine iteO_e hv226 (fun hb231 hv226 => W_true rfl hb231 ?_) (fun hb231 hv226 => W_false rfl hb231 ?_)
          · refine W_sub [0, 1] [0, 3, 29, 30, 31] (st' := ⟨[(0, .one (.e (.sl 0 0 x1.length))), (3, .one (.e (.sl 1 0 x164.length))), (29, .one (.e (.sl 0 0 x1.length))), (30, I ((x1.length : Nat) : Int)), (31, I i165)], [.row .nod x1 false, .row .int x164 true]⟩) (by kernel_rfl) ?_
            refine W_exit ?_
            refine thenS_e ?_
            refine blockS_y ?_
            cases hv226
            exact And.intro rfl rfl
          · refine W_sub [0, 1, 2] [0, 3, 4, 5, 29, 30, 31] (st' := ⟨[(0, .one (.e (.sl 0 0 x1.length))), (3, .one (.e (.sl 1 0 x164.length))), (4, I i165), (5, .one (.e (.p 2 0))), (29, .one (.e (.sl 0 0 x1.length))), (30, I ((x1.length : Nat) : Int)), (31, I i165)], [.row .nod x1 false, .row .int x164 true, .cells [cI ((x1.getD i165.toNat dnod).parent), cS ((x1.getD i165.toNat dnod).name), cI ((x1.getD i165.toNat dnod).value)]]⟩) (by kernel_rfl) ?_
            refine W_skip ?_
            refine thenS_n ?_
            refine W_seq ?_
            refine W_seq ?_
            refine W_region ?_
            refine WO_step 4 [0, 1, 2] [0, 3, 4, 5, 29, 30, 31, 43, 45] (True ∧ (True ∧ True)) ⟨[(0, .one (.e (.sl 0 0 x1.length))), (3, .one (.e (.sl 1 0 x164.length))), (4, I i165), (5, .one (.e (.p 2 0))), (29, .one (.e (.sl 0 0 x1.length))), (30, I ((x1.length : Nat) : Int)), (31, I i165), (43, I ((x1.getD i165.toNat dnod).parent)), (45, I (w64 (i165 - 1)))], [.row .nod x1 false, .row .int x164 true, .cells [cI ((x1.getD i165.toNat dnod).parent), cS ((x1.getD i165.toNat dnod).name), cI ((x1.getD i165.toNat dnod).value)]]⟩ (by kernel_rfl) ⟨trivial, trivial, trivial⟩ ?_
            refine WO_call [] Try.f26 rfl rfl rfl (by kernel_rfl) rfl rfl (by kernel_rfl) (impl_within_ok ((x1.getD i165.toNat dnod).parent) 0 (w64 (i165 - 1))) (trivial) rfl ?_
            refine WO_step 2 [0, 1, 2] [0, 3, 4, 5, 29, 30, 31, 48] True ⟨[(0, .one (.e (.sl 0 0 x1.length))), (3, .one (.e (.sl 1 0 x164.length))), (4, I i165), (5, .one (.e (.p 2 0))), (29, .one (.e (.sl 0 0 x1.length))), (30, I ((x1.length : Nat) : Int)), (31, I i165), (48, B (!(impl_within ((x1.getD i165.toNat dnod).parent) 0 (w64 (i165 - 1)))))], [.row .nod x1 false, .row .int x164 true, .cells [cI ((x1.getD i165.toNat dnod).parent), cS ((x1.getD i165.toNat dnod).name), cI ((x1.getD i165.toNat dnod).value)]]⟩ (by kernel_rfl) trivial ?_
            refine bindO_e hv226 (fun b235 hv236 hv226 => ?_)
            refine WO_thru ⟨[(0, .one (.e (.sl 0 0 x1.length))), (3, .one (.e (.sl 1 0 x164.length))), (4, I i165), (5, .one (.e (.p 2 0))), (29, .one (.e (.sl 0 0 x1.length))), (30, I ((x1.length : Nat) : Int)), (31, I i165), (53, B b235)], [.row .nod x1 false, .row .int x164 true, .cells [cI ((x1.getD i165.toNat dnod).parent), cS ((x1.getD i165.toNat dnod).name), cI ((x1.getD i165.toNat dnod).value)]]⟩ ?_ ?_
            · refine iteO_e hv236 (fun hb237 hv236 => WO_known 48 true rfl hb237 ?_) (fun hb237 hv236 => WO_known 48 false rfl hb237 ?_)
              · refine WO_step 5 [0, 1, 2] [0, 3, 4, 5, 29, 30, 31, 53] True ⟨[(0, .one (.e (.sl 0 0 x1.length))), (3, .one (.e (.sl 1 0 x164.length))), (4, I i165), (5, .one (.e (.p 2 0))), (29, .one (.e (.sl 0 0 x1.length))), (30, I ((x1.length : Nat) : Int)), (31, I i165), (53, B true)], [.row .nod x1 false, .row .int x164 true, .cells [cI ((x1.getD i165.toNat dnod).parent), cS ((x1.getD i165.toNat dnod).name), cI ((x1.getD i165.toNat dnod).value)]]⟩ (by kernel_rfl) trivial ?_
                cases hv236
                exact WO_nil rfl ⟨rfl, rfl⟩
              · refine WO_step 2 [0, 1, 2] [0, 3, 4, 5, 29, 30, 31, 48, 50] (True ∧ True) ⟨[(0, .one (.e (.sl 0 0 x1.length))), (3, .one (.e (.sl 1 0 x164.length))), (4, I i165), (5, .one (.e (.p 2 0))), (29, .one (.e (.sl 0 0 x1.length))), (30, I ((x1.length : Nat) : Int)), (31, I i165), (48, B false), (50, S ((x1.getD i165.toNat dnod).name))], [.row .nod x1 false, .row .int x164 true, .cells [cI ((x1.getD i165.toNat dnod).parent), cS ((x1.getD i165.toNat dnod).name), cI ((x1.getD i165.toNat dnod).value)]]⟩ (by kernel_rfl) ⟨trivial, trivial⟩ ?_
                refine bindO_e hv236 (fun b238 hc239 hv236 => ?_)
                refine WO_call [] Try.f27 rfl rfl rfl (by kernel_rfl) rfl rfl (by kernel_rfl) (impl_isName_ok n ((x1.getD i165.toNat dnod).name) b238 hc239) (trivial) rfl ?_
                refine WO_step 2 [0, 1, 2] [0, 3, 4, 5, 29, 30, 31, 53] True ⟨[(0, .one (.e (.sl 0 0 x1.length))), (3, .one (.e (.sl 1 0 x164.length))), (4, I i165), (5, .one (.e (.p 2 0))), (29, .one (.e (.sl 0 0 x1.length))), (30, I ((x1.length : Nat) : Int)), (31, I i165), (53, B (!b238))], [.row .nod x1 false, .row .int x164 true, .cells [cI ((x1.getD i165.toNat dnod).parent), cS ((x1.getD i165.toNat dnod).name), cI ((x1.getD i165.toNat dnod).value)]]⟩ (by kernel_rfl) trivial ?_
                cases hv236
                exact WO_nil rfl ⟨rfl, rfl⟩
            · refine thenS_n ?_
              refine iteO_e hv226 (fun hb241 hv226 => W_true rfl hb241 ?_) (fun hb241 hv226 => W_false rfl hb241 ?_)
              · refine W_seq ?_
                refine W_region ?_
                refine WO_step 1 [0] [2] True ⟨[(2, B false)], [.row .nod x1 false]⟩ (by kernel_rfl) trivial ?_
                refine WO_nil rfl ?_
                refine thenS_n ?_
                refine W_ret ?_
                refine thenS_r ?_
                refine blockS_r ?_
                cases hv226
                exact And.intro rfl rfl
              · refine W_sub [0, 1, 2] [0, 3, 4, 5, 29, 30, 31] (st' := ⟨[(0, .one (.e (.sl 0 0 x1.length))), (3, .one (.e (.sl 1 0 x164.length))), (4, I i165), (5, .one (.e (.p 2 0))), (29, .one (.e (.sl 0 0 x1.length))), (30, I ((x1.length : Nat) : Int)), (31, I i165)], [.row .nod x1 false, .row .int x164 true, .cells [cI ((x1.getD i165.toNat dnod).parent), cS ((x1.getD i165.toNat dnod).name), cI ((x1.getD i165.toNat dnod).value)]]⟩) (by kernel_rfl) ?_
                refine W_skip ?_
                refine thenS_n ?_
                refine W_seq ?_
                refine W_seq ?_
                refine guardO_e hv226 (fun hg242 hv226 => ?_)
                refine bindO_e hv226 (fun i243 hc244 hv226 => ?_)
                refine W_cut (Q' := fun (e : Exit) (s : St) => e = .normal ∧ s = ⟨[(0, .one (.e (.sl 0 0 x1.length))), (3, .one (.e (.sl 1 0 x164.length))), (4, I i165), (5, .one (.e (.p 2 0))), (29, .one (.e (.sl 0 0 x1.length))), (30, I ((x1.length : Nat) : Int)), (31, I i165), (62, B (decide (0 ≤ i243)))], [.row .nod x1 false, .row .int x164 true, .cells [cI ((x1.getD i165.toNat dnod).parent), cS ((x1.getD i165.toNat dnod).name), cI ((x1.getD i165.toNat dnod).value)]]⟩) ?_ ?_
                · refine W_draw [] false (by kernel_rfl) (by kernel_rfl) ?_
                  refine WD_takeK [0, 1, 3, 4, 5, 6] [0, 3, 4, 5, 29, 30, 31, 54, 55, 58, 60] [0, 3, 4, 5, 29, 30, 31, 54, 55, 58, 60] (φ := (True ∧ True ∧ (True ∧ True ∧ True))) (ls' := #[true, true, false, true, true, true, true, false, false]) (Ts' := [(0, .one (.e (.sl 0 0 x1.length))), (3, .one (.e (.sl 1 0 x164.length))), (4, I i165), (5, .one (.e (.p 2 0))), (29, .one (.e (.sl 0 0 x1.length))), (30, I ((x1.length : Nat) : Int)), (31, I i165), (54, .one (.e (.sl 0 0 x1.length))), (55, I i165), (58, I ((x1.getD i165.toNat dnod).parent)), (60, S ((x1.getD i165.toNat dnod).name))]) (st' := ⟨[(0, .one (.e (.sl 0 0 x1.length))), (3, .one (.e (.sl 1 0 x164.length))), (4, I i165), (5, .one (.e (.p 2 0))), (29, .one (.e (.sl 0 0 x1.length))), (30, I ((x1.length : Nat) : Int)), (31, I i165), (54, .one (.e (.sl 0 0 x1.length))), (55, I i165), (58, I ((x1.getD i165.toNat dnod).parent)), (60, S ((x1.getD i165.toNat dnod).name))], [.row .nod x1 false, .row .int x164 true, .cells [cI ((x1.getD i165.toNat dnod).parent), cS ((x1.getD i165.toNat dnod).name), cI ((x1.getD i165.toNat dnod).value)]]⟩) (n2 := 3) (by kernel_rfl) ⟨trivial, trivial, trivial, trivial, trivial⟩ rfl ?_
                  refine WD_all [2] (n := 2) (by kernel_rfl) rfl ?_
                  refine WM_op (φ := 0 ≤ i165 ∧ i165 ≤ ((x1.length : Nat) : Int)) (v := .one (.e (.sl 0 0 i165.toNat))) (H' := [.row .nod x1 false, .row .int x164 true, .cells [cI ((x1.getD i165.toNat dnod).parent), cS ((x1.getD i165.toNat dnod).name), cI ((x1.getD i165.toNat dnod).value)]]) rfl rfl (by kernel_rfl) hg242 rfl (And.intro rfl (And.intro rfl (And.intro (And.intro rfl rfl) (trivial)))) ?_
                  refine WD_all [7] (n := 1) (by kernel_rfl) rfl ?_
                  refine WM_call [.view 0] Try.f28 rfl rfl (by kernel_rfl) rfl rfl (by kernel_rfl) (impl_kidIn_ok n ((x1.drop 0).take i165.toNat) ((x1.getD i165.toNat dnod).parent) ((x1.getD i165.toNat dnod).name) i243 hc244) (trivial) rfl (And.intro rfl (And.intro rfl (And.intro (And.intro rfl rfl) (trivial)))) ?_
                  refine WD_takeK [8] [0, 3, 4, 5, 29, 30, 31, 62] [0, 3, 4, 5, 29, 30, 31, 62] (φ := (True ∧ True ∧ True)) (ls' := #[true, true, true, true, true, true, true, true, true]) (Ts' := [(0, .one (.e (.sl 0 0 x1.length))), (3, .one (.e (.sl 1 0 x164.length))), (4, I i165), (5, .one (.e (.p 2 0))), (29, .one (.e (.sl 0 0 x1.length))), (30, I ((x1.length : Nat) : Int)), (31, I i165), (62, B (decide (0 ≤ i243)))]) (st' := ⟨[(0, .one (.e (.sl 0 0 x1.length))), (3, .one (.e (.sl 1 0 x164.length))), (4, I i165), (5, .one (.e (.p 2 0))), (29, .one (.e (.sl 0 0 x1.length))), (30, I ((x1.length : Nat) : Int)), (31, I i165), (62, B (decide (0 ≤ i243)))], [.row .nod x1 false, .row .int x164 true, .cells [cI ((x1.getD i165.toNat dnod).parent), cS ((x1.getD i165.toNat dnod).name), cI ((x1.getD i165.toNat dnod).value)]]⟩) (n2 := 0) (by kernel_rfl) ⟨trivial, trivial, trivial⟩ rfl ?_
                  exact WD_done [0, 1, 2] [0, 3, 4, 5, 29, 30, 31, 62] (st' := ⟨[(0, .one (.e (.sl 0 0 x1.length))), (3, .one (.e (.sl 1 0 x164.length))), (4, I i165), (5, .one (.e (.p 2 0))), (29, .one (.e (.sl 0 0 x1.length))), (30, I ((x1.length : Nat) : Int)), (31, I i165), (62, B (decide (0 ≤ i243)))], [.row .nod x1 false, .row .int x164 true, .cells [cI ((x1.getD i165.toNat dnod).parent), cS ((x1.getD i165.toNat dnod).name), cI ((x1.getD i165.toNat dnod).value)]]⟩) (by kernel_rfl) (by kernel_rfl) (And.intro rfl rfl)
                · rintro _ _ ⟨rfl, rfl⟩
                  refine thenS_n ?_
                  refine iteO_e hv226 (fun hb246 hv226 => W_true rfl hb246 ?_) (fun hb246 hv226 => W_false rfl hb246 ?_)
                  · refine W_seq ?_
                    refine W_region ?_
                    refine WO_step 1 [0] [2] True ⟨[(2, B false)], [.row .nod x1 false]⟩ (by kernel_rfl) trivial ?_
                    refine WO_nil rfl ?_
                    refine thenS_n ?_
                    refine W_ret ?_
                    refine thenS_r ?_
                    refine blockS_r ?_
                    cases hv226
                    exact And.intro rfl rfl
                  · refine W_sub [0, 1, 2] [0, 3, 4, 5, 29, 30, 31] (st' := ⟨[(0, .one (.e (.sl 0 0 x1.length))), (3, .one (.e (.sl 1 0 x164.length))), (4, I i165), (5, .one (.e (.p 2 0))), (29, .one (.e (.sl 0 0 x1.length))), (30, I ((x1.length : Nat) : Int)), (31, I i165)], [.row .nod x1 false, .row .int x164 true, .cells [cI ((x1.getD i165.toNat dnod).parent), cS ((x1.getD i165.toNat dnod).name), cI ((x1.getD i165.toNat dnod).value)]]⟩) (by kernel_rfl) ?_
                    refine W_skip ?_
                    refine thenS_n ?_
                    refine W_seq ?_
                    refine W_region ?_
                    refine guardO_e hv226 (fun hg247 hv226 => ?_)
                    refine guardO_e hv226 (fun hg248 hv226 => ?_)
                    refine WO_step 10 [0, 1] [0, 3, 4, 29, 30, 31] (True ∧ ((0 ≤ (x1.getD i165.toNat dnod).parent ∧ (x1.getD i165.toNat dnod).parent < ((x164.length : Nat) : Int)) ∧ (True ∧ (True ∧ ((0 ≤ i165 ∧ i165 < ((x164.length : Nat) : Int)) ∧ (True ∧ True)))))) ⟨[(0, .one (.e (.sl 0 0 x1.length))), (3, .one (.e (.sl 1 0 x164.length))), (4, I i165), (29, .one (.e (.sl 0 0 x1.length))), (30, I ((x1.length : Nat) : Int)), (31, I i165)], [.row .nod x1 false, .row .int (x164.set i165.toNat (w64 ((x164.getD (((x1.getD i165.toNat dnod).parent).toNat) 0) + 1))) true]⟩ (by kernel_rfl) ⟨trivial, hg247, trivial, trivial, hg248, trivial, trivial⟩ ?_
                    refine WO_eq (st' := ⟨[(0, .one (.e (.sl 0 0 x1.length))), (3, .one (.e (.sl 1 0 ((x164.set i165.toNat (w64 ((x164.getD (((x1.getD i165.toNat dnod).parent).toNat) 0) + 1))).length)))), (4, I i165), (29, .one (.e (.sl 0 0 x1.length))), (30, I ((x1.length : Nat) : Int)), (31, I i165)], [.row .nod x1 false, .row .int (x164.set i165.toNat (w64 ((x164.getD (((x1.getD i165.toNat dnod).parent).toNat) 0) + 1))) true]⟩) (by simp only [List.length_set]) ?_
                    refine WO_nil rfl ?_
                    refine thenS_n ?_
                    refine W_seq ?_
                    refine W_region ?_
                    refine guardO_e hv226 (fun hg249 hv226 => ?_)
                    refine WO_step 5 [0, 1] [0, 3, 29, 30, 31, 76] ((0 ≤ i165 ∧ i165 < (((x164.set i165.toNat (w64 ((x164.getD (((x1.getD i165.toNat dnod).parent).toNat) 0) + 1))).length : Nat) : Int)) ∧ (True ∧ (True ∧ True))) ⟨[(0, .one (.e (.sl 0 0 x1.length))), (3, .one (.e (.sl 1 0 ((x164.set i165.toNat (w64 ((x164.getD (((x1.getD i165.toNat dnod).parent).toNat) 0) + 1))).length)))), (29, .one (.e (.sl 0 0 x1.length))), (30, I ((x1.length : Nat) : Int)), (31, I i165), (76, B (decide (4 < ((x164.set i165.toNat (w64 ((x164.getD (((x1.getD i165.toNat dnod).parent).toNat) 0) + 1))).getD i165.toNat 0))))], [.row .nod x1 false, .row .int (x164.set i165.toNat (w64 ((x164.getD (((x1.getD i165.toNat dnod).parent).toNat) 0) + 1))) true]⟩ (by kernel_rfl) ⟨hg249, trivial, trivial, trivial⟩ ?_
                    refine WO_nil rfl ?_
                    refine thenS_n ?_
                    refine iteO_e hv226 (fun hb251 hv226 => W_true rfl hb251 ?_) (fun hb251 hv226 => W_false rfl hb251 ?_)
                    · refine W_seq ?_
                      refine W_region ?_
                      refine WO_step 1 [0] [2] True ⟨[(2, B false)], [.row .nod x1 false]⟩ (by kernel_rfl) trivial ?_
                      refine WO_nil rfl ?_
                      refine thenS_n ?_
                      refine W_ret ?_
                      refine blockS_r ?_
                      cases hv226
                      exact And.intro rfl rfl
                    · refine W_sub [0, 1] [0, 3, 29, 30, 31] (st' := ⟨[(0, .one (.e (.sl 0 0 x1.length))), (3, .one (.e (.sl 1 0 ((x164.set i165.toNat (w64 ((x164.getD (((x1.getD i165.toNat dnod).parent).toNat) 0) + 1))).length)))), (29, .one (.e (.sl 0 0 x1.length))), (30, I ((x1.length : Nat) : Int)), (31, I i165)], [.row .nod x1 false, .row .int (x164.set i165.toNat (w64 ((x164.getD (((x1.getD i165.toNat dnod).parent).toNat) 0) + 1))) true]⟩) (by kernel_rfl) ?_
                      refine W_skip ?_
                      refine blockS_n ?_
                      cases hv226
                      exact And.intro rfl rfl
      · rcases v226 with _ | x225
        · rintro _ _ ⟨rfl, rfl⟩
          refine thenS_r ?_
          refine thenS_r ?_
          cases h
          exact And.intro rfl rfl
        · rintro _ _ ⟨rfl, rfl⟩
          refine thenS_n ?_
          refine W_region ?_
          refine WO_step 2 [0, 1] [0, 3, 29, 30, 31] (True ∧ True) ⟨[(0, .one (.e (.sl 0 0 x1.length))), (3, .one (.e (.sl 1 0 x225.length))), (29, .one (.e (.sl 0 0 x1.length))), (30, I ((x1.length : Nat) : Int)), (31, I (w64 (i165 + 1)))], [.row .nod x1 false, .row .int x225 true]⟩ (by kernel_rfl) ⟨trivial, trivial⟩ ?_
          refine WO_nil rfl ?_
          refine thenS_n ?_
          exact ih _ _ h
    · refine W_sub [0] [] (st' := ⟨[], [.row .nod x1 false]⟩) (by kernel_rfl) ?_
      refine W_exit ?_
      refine thenS_e ?_
      refine thenS_e ?_
      cases h
      exact And.intro rfl rfl

def impl_ValidTree (n : Nat) (x1 : List Nod) : Option (Bool) :=
 iteO ((decide (((x1.length : Nat) : Int) < 1)) || (decide (12 < ((x1.length : Nat) : Int))))
 (some false)
 (guardO (0 ≤ (0 : Int) ∧ (0 : Int) < ((x1.length : Nat) : Int)) <|
 bindO (iteO (!decide (((x1.getD 0 dnod).parent) = (-1)))
 (some true)
 (guardO (0 ≤ (0 : Int) ∧ (0 : Int) < ((x1.length : Nat) : Int)) <|
 some (!decide (((x1.getD 0 dnod).name) = [])))) fun b123 =>
 iteO b123
 (some false)
 (guardO ((((x1.length : Nat) : Int) : Int) = ((x1.length : Nat) : Int) ∧ 0 ≤ ((x1.length : Nat) : Int) ∧ ((x1.length : Nat) : Int) ≤ 1099511627776) <|
 bindO (impl_ValidTree_L1 x1 n (List.replicate (((x1.length : Nat) : Int).toNat) (0 : Int)) 0) fun v252 =>
 match v252 with
 | (.inl _) => (some false)
 | (.inr _) => (some true)
))

theorem impl_ValidTree_ok (n : Nat) (x1 : List Nod) (b114 : Bool) (h : impl_ValidTree n x1 = some b114) : FOk EE 13 [.one (.e (.sl 0 0 x1.length))] [.row .nod x1 false] (B b114) [.row .nod x1 false] := by
  unfold impl_ValidTree at h
  refine FOk_of_W 78 1 Try.func13 rfl rfl (Nat.le_of_ble_eq_true rfl) rfl (fun w X θ => ?_)
  refine W_seq ?_
  refine W_region ?_
  refine WO_step 1 [0] [0] True ⟨[(0, .one (.e (.sl 0 0 x1.length)))], [.row .nod x1 false]⟩ (by kernel_rfl) trivial ?_
  refine WO_nil rfl ?_
  refine thenS_n ?_
  refine W_seq ?_
  refine W_seq ?_
  refine W_region ?_
  refine WO_step 4 [0] [0, 9] (True ∧ (True ∧ True)) ⟨[(0, .one (.e (.sl 0 0 x1.length))), (9, B (decide (((x1.length : Nat) : Int) < 1)))], [.row .nod x1 false]⟩ (by kernel_rfl) ⟨trivial, trivial, trivial⟩ ?_
  refine WO_thru ⟨[(0, .one (.e (.sl 0 0 x1.length))), (13, B ((decide (((x1.length : Nat) : Int) < 1)) || (decide (12 < ((x1.length : Nat) : Int)))))], [.row .nod x1 false]⟩ ?_ ?_
  · refine WO_if 9 rfl (fun hb117 => ?_) (fun hb117 => ?_)
    · refine WO_step 4 [0] [0, 13] True ⟨[(0, .one (.e (.sl 0 0 x1.length))), (13, B true)], [.row .nod x1 false]⟩ (by kernel_rfl) trivial ?_
      exact WO_nil rfl ⟨rfl, by first | rfl | (rw [hb117]; first | done | rfl)⟩
    · refine WO_step 4 [0] [0, 13] (True ∧ (True ∧ True)) ⟨[(0, .one (.e (.sl 0 0 x1.length))), (13, B (decide (12 < ((x1.length : Nat) : Int))))], [.row .nod x1 false]⟩ (by kernel_rfl) ⟨trivial, trivial, trivial⟩ ?_
      exact WO_nil rfl ⟨rfl, by first | rfl | (rw [hb117]; first | done | rfl)⟩
  · refine thenS_n ?_
    refine iteO_e h (fun hb119 h => W_true rfl hb119 ?_) (fun hb119 h => W_false rfl hb119 ?_)
    · refine W_seq ?_
      refine W_region ?_
      refine WO_step 1 [0] [2] True ⟨[(2, B false)], [.row .nod x1 false]⟩ (by kernel_rfl) trivial ?_
      refine WO_nil rfl ?_
      refine thenS_n ?_
      refine W_ret ?_
      refine thenS_r ?_
      cases h
      exact ⟨[0], True, by kernel_rfl, trivial⟩
    · refine W_sub [0] [0] (st' := ⟨[(0, .one (.e (.sl 0 0 x1.length)))], [.row .nod x1 false]⟩) (by kernel_rfl) ?_
      refine W_skip ?_
      refine thenS_n ?_
      refine W_seq ?_
      refine W_seq ?_
      refine W_region ?_
      refine guardO_e h (fun hg120 h => ?_)
      refine WO_step 6 [0] [0, 19] ((0 ≤ (0 : Int) ∧ (0 : Int) < ((x1.length : Nat) : Int)) ∧ (True ∧ (True ∧ True))) ⟨[(0, .one (.e (.sl 0 0 x1.length))), (19, B (!decide (((x1.getD 0 dnod).parent) = (-1))))], [.row .nod x1 false]⟩ (by kernel_rfl) ⟨hg120, trivial, trivial, trivial⟩ ?_
      refine bindO_e h (fun b123 hv124 h => ?_)
      refine WO_thru ⟨[(0, .one (.e (.sl 0 0 x1.length))), (25, B b123)], [.row .nod x1 false]⟩ ?_ ?_
      · refine iteO_e hv124 (fun hb125 hv124 => WO_known 19 true rfl hb125 ?_) (fun hb125 hv124 => WO_known 19 false rfl hb125 ?_)
        · refine WO_step 6 [0] [0, 25] True ⟨[(0, .one (.e (.sl 0 0 x1.length))), (25, B true)], [.row .nod x1 false]⟩ (by kernel_rfl) trivial ?_
          cases hv124
          exact WO_nil rfl ⟨rfl, rfl⟩
        · refine guardO_e hv124 (fun hg126 hv124 => ?_)
          refine WO_step 6 [0] [0, 25] ((0 ≤ (0 : Int) ∧ (0 : Int) < ((x1.length : Nat) : Int)) ∧ (True ∧ (True ∧ True))) ⟨[(0, .one (.e (.sl 0 0 x1.length))), (25, B (!decide (((x1.getD 0 dnod).name) = [])))], [.row .nod x1 false]⟩ (by kernel_rfl) ⟨hg126, trivial, trivial, trivial⟩ ?_
          cases hv124
          exact WO_nil rfl ⟨rfl, rfl⟩
      · refine thenS_n ?_
        refine iteO_e h (fun hb128 h => W_true rfl hb128 ?_) (fun hb128 h => W_false rfl hb128 ?_)
        · refine W_seq ?_
          refine W_region ?_
          refine WO_step 1 [0] [2] True ⟨[(2, B false)], [.row .nod x1 false]⟩ (by kernel_rfl) trivial ?_
          refine WO_nil rfl ?_
          refine thenS_n ?_
          refine W_ret ?_
          refine thenS_r ?_
          cases h
          exact ⟨[0], True, by kernel_rfl, trivial⟩
        · refine W_sub [0] [0] (st' := ⟨[(0, .one (.e (.sl 0 0 x1.length)))], [.row .nod x1 false]⟩) (by kernel_rfl) ?_
          refine W_skip ?_
          refine thenS_n ?_
          refine W_seq ?_
          refine W_region ?_
          refine guardO_e h (fun hg129 h => ?_)
          refine WO_step 4 [0, 1] [0, 3] (True ∧ (((((x1.length : Nat) : Int) : Int) = ((x1.length : Nat) : Int) ∧ 0 ≤ ((x1.length : Nat) : Int) ∧ ((x1.length : Nat) : Int) ≤ 1099511627776) ∧ True)) ⟨[(0, .one (.e (.sl 0 0 x1.length))), (3, .one (.e (.sl 1 0 ((List.replicate (((x1.length : Nat) : Int).toNat) (0 : Int)).length))))], [.row .nod x1 false, .row .int (List.replicate (((x1.length : Nat) : Int).toNat) (0 : Int)) true]⟩ (by kernel_rfl) ⟨trivial, hg129, trivial⟩ ?_
          refine WO_nil rfl ?_
          refine thenS_n ?_
          refine W_seq ?_
          refine W_seq ?_
          refine W_region ?_
          refine WO_step 3 [0, 1] [0, 3, 29, 30, 31] (True ∧ True) ⟨[(0, .one (.e (.sl 0 0 x1.length))), (3, .one (.e (.sl 1 0 ((List.replicate (((x1.length : Nat) : Int).toNat) (0 : Int)).length)))), (29, .one (.e (.sl 0 0 x1.length))), (30, I ((x1.length : Nat) : Int)), (31, I 0)], [.row .nod x1 false, .row .int (List.replicate (((x1.length : Nat) : Int).toNat) (0 : Int)) true]⟩ (by kernel_rfl) ⟨trivial, trivial⟩ ?_
          refine WO_nil rfl ?_
          refine thenS_n ?_
          refine W_block ?_
          refine W_loop ?_
          refine bindO_e h (fun v252 hv252 h => ?_)
          refine WL_cut (impl_ValidTree_L1_ok w X θ x1 v252 n (List.replicate (((x1.length : Nat) : Int).toNat) (0 : Int)) 0 hv252) ?_
          rcases v252 with _ | _
          · rintro _ _ ⟨rfl, rfl⟩
            refine blockS_r ?_
            refine thenS_r ?_
            cases h
            exact ⟨[0], True, by kernel_rfl, trivial⟩
          · rintro _ _ ⟨rfl, rfl⟩
            refine blockS_y ?_
            refine thenS_n ?_
            refine W_seq ?_
            refine W_region ?_
            refine WO_step 1 [0] [2] True ⟨[(2, B true)], [.row .nod x1 false]⟩ (by kernel_rfl) trivial ?_
            refine WO_nil rfl ?_
            refine thenS_n ?_
            refine W_ret ?_
            cases h
            exact ⟨[0], True, by kernel_rfl, trivial⟩

/- impl.isNode -/
def impl_isNode (n : Nat) (x1 : List Nod) (i2 : Int) : Option (Bool) :=
 bindO (iteO (impl_within i2 0 (w64 (((x1.length : Nat) : Int) - 1)))
 (bindO (impl_ValidTree n x1) fun b18 =>
 some b18)
 (some false)) fun b15 =>
 some b15

theorem impl_isNode_ok (n : Nat) (x1 : List Nod) (i2 : Int) (b11 : Bool) (h : impl_isNode n x1 i2 = some b11) : FOk EE 46 [.one (.e (.sl 0 0 x1.length)), I i2] [.row .nod x1 false] (B b11) [.row .nod x1 false] := by
  unfold impl_isNode at h
  refine FOk_of_W 14 1 Try.func46 rfl rfl (Nat.le_of_ble_eq_true rfl) rfl (fun w X θ => ?_)
  refine W_seq ?_
  refine W_region ?_
  refine WO_step 1 [0] [0, 1] True ⟨[(0, .one (.e (.sl 0 0 x1.length))), (1, I i2)], [.row .nod x1 false]⟩ (by kernel_rfl) trivial ?_
  refine WO_nil rfl ?_
  refine thenS_n ?_
  refine W_seq ?_
  refine W_region ?_
  refine WO_step 4 [0] [0, 5, 8] (True ∧ (True ∧ True)) ⟨[(0, .one (.e (.sl 0 0 x1.length))), (5, I i2), (8, I (w64 (((x1.length : Nat) : Int) - 1)))], [.row .nod x1 false]⟩ (by kernel_rfl) ⟨trivial, trivial, trivial⟩ ?_
  refine WO_call [] Try.f26 rfl rfl rfl (by kernel_rfl) rfl rfl (by kernel_rfl) (impl_within_ok i2 0 (w64 (((x1.length : Nat) : Int) - 1))) (trivial) rfl ?_
  refine WO_step 1 [0] [0, 10] True ⟨[(0, .one (.e (.sl 0 0 x1.length))), (10, B (impl_within i2 0 (w64 (((x1.length : Nat) : Int) - 1))))], [.row .nod x1 false]⟩ (by kernel_rfl) trivial ?_
  refine bindO_e h (fun b15 hv16 h => ?_)
  refine WO_thru ⟨[(4, B b15)], [.row .nod x1 false]⟩ ?_ ?_
  · refine iteO_e hv16 (fun hb17 hv16 => WO_known 10 true rfl hb17 ?_) (fun hb17 hv16 => WO_known 10 false rfl hb17 ?_)
    · refine WO_step 1 [0] [10, 11] True ⟨[(10, B true), (11, .one (.e (.sl 0 0 x1.length)))], [.row .nod x1 false]⟩ (by kernel_rfl) trivial ?_
      refine bindO_e hv16 (fun b18 hc19 hv16 => ?_)
      refine WO_call [.ro 0] Try.f13 rfl rfl rfl (by kernel_rfl) rfl rfl (by kernel_rfl) (impl_ValidTree_ok n x1 b18 hc19) (And.intro (And.intro rfl rfl) (trivial)) rfl ?_
      refine WO_step 2 [0] [4] True ⟨[(4, B b18)], [.row .nod x1 false]⟩ (by kernel_rfl) trivial ?_
      cases hv16
      exact WO_nil rfl ⟨rfl, rfl⟩
    · refine WO_step 4 [0] [4] True ⟨[(4, B false)], [.row .nod x1 false]⟩ (by kernel_rfl) trivial ?_
      cases hv16
      exact WO_nil rfl ⟨rfl, rfl⟩
  · refine thenS_n ?_
    refine W_ret ?_
    cases h
    exact ⟨[0], True, by kernel_rfl, trivial⟩

/- slices.Reverse[[]int,int] -/
def slices_Reverse_int_int_L1 (k2 : Nat) : Nat → (List Int) → Int → Int → Option ((List Int))
| 0, _, _, _ => none
| n + 1, x68, i69, i70 =>
 iteO (decide (i69 < i70))
 (guardO (0 ≤ i70 ∧ i70 < ((k2 : Nat) : Int)) <|
 guardO (0 ≤ i69 ∧ i69 < ((k2 : Nat) : Int)) <|
 guardO (0 ≤ i69 ∧ i69 < ((k2 : Nat) : Int)) <|
 guardO (0 ≤ i70 ∧ i70 < ((k2 : Nat) : Int)) <|
 slices_Reverse_int_int_L1 k2 n ((x68.set i69.toNat (x68.getD i70.toNat 0)).set i70.toNat (x68.getD i69.toNat 0)) (w64 (i69 + 1)) (w64 (i70 - 1)))
 (some x68)

theorem slices_Reverse_int_int_L1_ok (w : World) (X : Nat → Prop) (θ : List Loc) (k2 : Nat) (x84 : (List Int)) : ∀ (n : Nat) (x68 : List Int) (i69 : Int) (i70 : Int), slices_Reverse_int_int_L1 k2 n x68 i69 i70 = some x84 → WL EE ⟨w, X, θ, 28, 1⟩ (subC [1, 4, 4] (bodyC Try.f47)) (fun (e : Exit) (s : St) => e = .exit 0 ∧ s = ⟨[], [.row .int x84 true]⟩) ⟨[(0, .one (.e (.sl 0 0 k2))), (2, I i69), (3, I i70)], [.row .int x68 true]⟩ := by
  intro n
  induction n with
  | zero => intro _ _ _ h; exact none_e h
  | succ n ih =>
    intro x68 i69 i70 h
    rw [slices_Reverse_int_int_L1] at h
    refine WL_round ?_
    refine W_seq ?_
    refine W_seq ?_
    refine W_region ?_
    refine WO_step 3 [0] [0, 2, 3, 9] (True ∧ True) ⟨[(0, .one (.e (.sl 0 0 k2))), (2, I i69), (3, I i70), (9, B (decide (i69 < i70)))], [.row .int x68 true]⟩ (by kernel_rfl) ⟨trivial, trivial⟩ ?_
    refine WO_nil rfl ?_
    refine thenS_n ?_
    refine iteO_e h (fun hb87 h => W_true rfl hb87 ?_) (fun hb87 h => W_false rfl hb87 ?_)
    · refine W_sub [0] [0, 2, 3] (st' := ⟨[(0, .one (.e (.sl 0 0 k2))), (2, I i69), (3, I i70)], [.row .int x68 true]⟩) (by kernel_rfl) ?_
      refine W_skip ?_
      refine thenS_n ?_
      refine W_seq ?_
      refine W_block ?_
      refine guardO_e h (fun hg92 h => ?_)
      refine guardO_e h (fun hg93 h => ?_)
      refine guardO_e h (fun hg94 h => ?_)
      refine guardO_e h (fun hg95 h => ?_)
      refine W_cut (Q' := fun (e : Exit) (s : St) => e = .normal ∧ s = ⟨[(0, .one (.e (.sl 0 0 k2))), (2, I i69), (3, I i70)], [.row .int ((x68.set i69.toNat (x68.getD i70.toNat 0)).set i70.toNat (x68.getD i69.toNat 0)) true]⟩) ?_ ?_
      · refine W_draw [0] false (by kernel_rfl) (by kernel_rfl) ?_
        refine WD_takeK [0, 1, 2, 3, 4, 5, 8, 9] [0, 2, 3, 14, 15, 16, 17, 18, 19, 22, 23] [0, 2, 3, 14, 15, 16, 17, 18, 19, 22, 23] (φ := True) (ls' := #[true, true, true, true, true, true, false, false, true, true, false, false, false, false, false, false]) (Ts' := [(0, .one (.e (.sl 0 0 k2))), (2, I i69), (3, I i70), (14, .one (.e (.sl 0 0 k2))), (15, I i69), (16, .one (.e (.sl 0 0 k2))), (17, I i70), (18, .one (.e (.sl 0 0 k2))), (19, I i70), (22, .one (.e (.sl 0 0 k2))), (23, I i69)]) (st' := ⟨[(0, .one (.e (.sl 0 0 k2))), (2, I i69), (3, I i70), (14, .one (.e (.sl 0 0 k2))), (15, I i69), (16, .one (.e (.sl 0 0 k2))), (17, I i70), (18, .one (.e (.sl 0 0 k2))), (19, I i70), (22, .one (.e (.sl 0 0 k2))), (23, I i69)], [.row .int x68 true]⟩) (n2 := 8) (by kernel_rfl) trivial rfl ?_
        refine WD_all [6, 10] (n := 7) (by kernel_rfl) rfl (And.intro ?_ (?_))
        · refine WM_op (φ := 0 ≤ i70 ∧ i70 < ((k2 : Nat) : Int)) (v := .one (.e (.rp 0 i70.toNat 0))) (H' := [.row .int x68 true]) rfl rfl (by kernel_rfl) hg92 rfl (trivial) ?_
          refine WD_all [7, 10] (n := 6) (by kernel_rfl) rfl (And.intro ?_ (?_))
          · refine WM_op (φ := True) (v := I (x68.getD i70.toNat 0)) (H' := [.row .int x68 true]) rfl rfl (by kernel_rfl) trivial rfl (trivial) ?_
            refine WD_all [10] (n := 5) (by kernel_rfl) rfl ?_
            refine WM_op (φ := 0 ≤ i69 ∧ i69 < ((k2 : Nat) : Int)) (v := .one (.e (.rp 0 i69.toNat 0))) (H' := [.row .int x68 true]) rfl rfl (by kernel_rfl) hg93 rfl (trivial) ?_
            refine WD_all [11] (n := 4) (by kernel_rfl) rfl ?_
            refine WM_op (φ := True) (v := I (x68.getD i69.toNat 0)) (H' := [.row .int x68 true]) rfl rfl (by kernel_rfl) trivial rfl (trivial) ?_
            refine WD_all [12] (n := 3) (by kernel_rfl) rfl ?_
            refine WM_op (φ := 0 ≤ i69 ∧ i69 < ((k2 : Nat) : Int)) (v := .one (.e (.rp 0 i69.toNat 0))) (H' := [.row .int x68 true]) rfl rfl (by kernel_rfl) hg94 rfl (trivial) ?_
            refine WD_all [13] (n := 2) (by kernel_rfl) rfl ?_
            refine WM_store (u := .one (.e (.rp 0 i69.toNat 0))) (v := I (x68.getD i70.toNat 0)) (φ := True) (H' := [.row .int (x68.set i69.toNat (x68.getD i70.toNat 0)) true]) rfl rfl rfl rfl rfl (by kernel_rfl) trivial rfl (trivial) ?_
            refine WD_all [14] (n := 1) (by kernel_rfl) rfl ?_
            refine WM_op (φ := 0 ≤ i70 ∧ i70 < ((k2 : Nat) : Int)) (v := .one (.e (.rp 0 i70.toNat 0))) (H' := [.row .int (x68.set i69.toNat (x68.getD i70.toNat 0)) true]) rfl rfl (by kernel_rfl) hg95 rfl (trivial) ?_
            refine WD_all [15] (n := 0) (by kernel_rfl) rfl ?_
            refine WM_store (u := .one (.e (.rp 0 i70.toNat 0))) (v := I (x68.getD i69.toNat 0)) (φ := True) (H' := [.row .int ((x68.set i69.toNat (x68.getD i70.toNat 0)).set i70.toNat (x68.getD i69.toNat 0)) true]) rfl rfl rfl rfl rfl (by kernel_rfl) trivial rfl (trivial) ?_
            exact WD_done [0] [0, 2, 3] (st' := ⟨[(0, .one (.e (.sl 0 0 k2))), (2, I i69), (3, I i70)], [.row .int ((x68.set i69.toNat (x68.getD i70.toNat 0)).set i70.toNat (x68.getD i69.toNat 0)) true]⟩) (by kernel_rfl) (by kernel_rfl) (And.intro rfl rfl)
          · refine WM_op (φ := 0 ≤ i69 ∧ i69 < ((k2 : Nat) : Int)) (v := .one (.e (.rp 0 i69.toNat 0))) (H' := [.row .int x68 true]) rfl rfl (by kernel_rfl) hg93 rfl (trivial) ?_
            refine WD_all [7, 11] (n := 5) (by kernel_rfl) rfl (And.intro ?_ (?_))
            · refine WM_op (φ := True) (v := I (x68.getD i70.toNat 0)) (H' := [.row .int x68 true]) rfl rfl (by kernel_rfl) trivial rfl (trivial) ?_
              refine WD_all [11] (n := 4) (by kernel_rfl) rfl ?_
              refine WM_op (φ := True) (v := I (x68.getD i69.toNat 0)) (H' := [.row .int x68 true]) rfl rfl (by kernel_rfl) trivial rfl (trivial) ?_
              refine WD_all [12] (n := 3) (by kernel_rfl) rfl ?_
              refine WM_op (φ := 0 ≤ i69 ∧ i69 < ((k2 : Nat) : Int)) (v := .one (.e (.rp 0 i69.toNat 0))) (H' := [.row .int x68 true]) rfl rfl (by kernel_rfl) hg94 rfl (trivial) ?_
              refine WD_all [13] (n := 2) (by kernel_rfl) rfl ?_
              refine WM_store (u := .one (.e (.rp 0 i69.toNat 0))) (v := I (x68.getD i70.toNat 0)) (φ := True) (H' := [.row .int (x68.set i69.toNat (x68.getD i70.toNat 0)) true]) rfl rfl rfl rfl rfl (by kernel_rfl) trivial rfl (trivial) ?_
              refine WD_all [14] (n := 1) (by kernel_rfl) rfl ?_
              refine WM_op (φ := 0 ≤ i70 ∧ i70 < ((k2 : Nat) : Int)) (v := .one (.e (.rp 0 i70.toNat 0))) (H' := [.row .int (x68.set i69.toNat (x68.getD i70.toNat 0)) true]) rfl rfl (by kernel_rfl) hg95 rfl (trivial) ?_
              refine WD_all [15] (n := 0) (by kernel_rfl) rfl ?_
              refine WM_store (u := .one (.e (.rp 0 i70.toNat 0))) (v := I (x68.getD i69.toNat 0)) (φ := True) (H' := [.row .int ((x68.set i69.toNat (x68.getD i70.toNat 0)).set i70.toNat (x68.getD i69.toNat 0)) true]) rfl rfl rfl rfl rfl (by kernel_rfl) trivial rfl (trivial) ?_
              exact WD_done [0] [0, 2, 3] (st' := ⟨[(0, .one (.e (.sl 0 0 k2))), (2, I i69), (3, I i70)], [.row .int ((x68.set i69.toNat (x68.getD i70.toNat 0)).set i70.toNat (x68.getD i69.toNat 0)) true]⟩) (by kernel_rfl) (by kernel_rfl) (And.intro rfl rfl)
            · refine WM_op (φ := True) (v := I (x68.getD i69.toNat 0)) (H' := [.row .int x68 true]) rfl rfl (by kernel_rfl) trivial rfl (trivial) ?_
              refine WD_all [7] (n := 4) (by kernel_rfl) rfl ?_
              refine WM_op (φ := True) (v := I (x68.getD i70.toNat 0)) (H' := [.row .int x68 true]) rfl rfl (by kernel_rfl) trivial rfl (trivial) ?_
              refine WD_all [12] (n := 3) (by kernel_rfl) rfl ?_
              refine WM_op (φ := 0 ≤ i69 ∧ i69 < ((k2 : Nat) : Int)) (v := .one (.e (.rp 0 i69.toNat 0))) (H' := [.row .int x68 true]) rfl rfl (by kernel_rfl) hg94 rfl (trivial) ?_
              refine WD_all [13] (n := 2) (by kernel_rfl) rfl ?_
              refine WM_store (u := .one (.e (.rp 0 i69.toNat 0))) (v := I (x68.getD i70.toNat 0)) (φ := True) (H' := [.row .int (x68.set i69.toNat (x68.getD i70.toNat 0)) true]) rfl rfl rfl rfl rfl (by kernel_rfl) trivial rfl (trivial) ?_
              refine WD_all [14] (n := 1) (by kernel_rfl) rfl ?_
              refine WM_op (φ := 0 ≤ i70 ∧ i70 < ((k2 : Nat) : Int)) (v := .one (.e (.rp 0 i70.toNat 0))) (H' := [.row .int (x68.set i69.toNat (x68.getD i70.toNat 0)) true]) rfl rfl (by kernel_rfl) hg95 rfl (trivial) ?_
              refine WD_all [15] (n := 0) (by kernel_rfl) rfl ?_
              refine WM_store (u := .one (.e (.rp 0 i70.toNat 0))) (v := I (x68.getD i69.toNat 0)) (φ := True) (H' := [.row .int ((x68.set i69.toNat (x68.getD i70.toNat 0)).set i70.toNat (x68.getD i69.toNat 0)) true]) rfl rfl rfl rfl rfl (by kernel_rfl) trivial rfl (trivial) ?_
              exact WD_done [0] [0, 2, 3] (st' := ⟨[(0, .one (.e (.sl 0 0 k2))), (2, I i69), (3, I i70)], [.row .int ((x68.set i69.toNat (x68.getD i70.toNat 0)).set i70.toNat (x68.getD i69.toNat 0)) true]⟩) (by kernel_rfl) (by kernel_rfl) (And.intro rfl rfl)
        · refine WM_op (φ := 0 ≤ i69 ∧ i69 < ((k2 : Nat) : Int)) (v := .one (.e (.rp 0 i69.toNat 0))) (H' := [.row .int x68 true]) rfl rfl (by kernel_rfl) hg93 rfl (trivial) ?_
          refine WD_all [6, 11] (n := 6) (by kernel_rfl) rfl (And.intro ?_ (?_))
          · refine WM_op (φ := 0 ≤ i70 ∧ i70 < ((k2 : Nat) : Int)) (v := .one (.e (.rp 0 i70.toNat 0))) (H' := [.row .int x68 true]) rfl rfl (by kernel_rfl) hg92 rfl (trivial) ?_
            refine WD_all [7, 11] (n := 5) (by kernel_rfl) rfl (And.intro ?_ (?_))
            · refine WM_op (φ := True) (v := I (x68.getD i70.toNat 0)) (H' := [.row .int x68 true]) rfl rfl (by kernel_rfl) trivial rfl (trivial) ?_
              refine WD_all [11] (n := 4) (by kernel_rfl) rfl ?_
              refine WM_op (φ := True) (v := I (x68.getD i69.toNat 0)) (H' := [.row .int x68 true]) rfl rfl (by kernel_rfl) trivial rfl (trivial) ?_
              refine WD_all [12] (n := 3) (by kernel_rfl) rfl ?_
              refine WM_op (φ := 0 ≤ i69 ∧ i69 < ((k2 : Nat) : Int)) (v := .one (.e (.rp 0 i69.toNat 0))) (H' := [.row .int x68 true]) rfl rfl (by kernel_rfl) hg94 rfl (trivial) ?_
              refine WD_all [13] (n := 2) (by kernel_rfl) rfl ?_
              refine WM_store (u := .one (.e (.rp 0 i69.toNat 0))) (v := I (x68.getD i70.toNat 0)) (φ := True) (H' := [.row .int (x68.set i69.toNat (x68.getD i70.toNat 0)) true]) rfl rfl rfl rfl rfl (by kernel_rfl) trivial rfl (trivial) ?_
              refine WD_all [14] (n := 1) (by kernel_rfl) rfl ?_
              refine WM_op (φ := 0 ≤ i70 ∧ i70 < ((k2 : Nat) : Int)) (v := .one (.e (.rp 0 i70.toNat 0))) (H' := [.row .int (x68.set i69.toNat (x68.getD i70.toNat 0)) true]) rfl rfl (by kernel_rfl) hg95 rfl (trivial) ?_
              refine WD_all [15] (n := 0) (by kernel_rfl) rfl ?_
              refine WM_store (u := .one (.e (.rp 0 i70.toNat 0))) (v := I (x68.getD i69.toNat 0)) (φ := True) (H' := [.row .int ((x68.set i69.toNat (x68.getD i70.toNat 0)).set i70.toNat (x68.getD i69.toNat 0)) true]) rfl rfl rfl rfl rfl (by kernel_rfl) trivial rfl (trivial) ?_
              exact WD_done [0] [0, 2, 3] (st' := ⟨[(0, .one (.e (.sl 0 0 k2))), (2, I i69), (3, I i70)], [.row .int ((x68.set i69.toNat (x68.getD i70.toNat 0)).set i70.toNat (x68.getD i69.toNat 0)) true]⟩) (by kernel_rfl) (by kernel_rfl) (And.intro rfl rfl)
            · refine WM_op (φ := True) (v := I (x68.getD i69.toNat 0)) (H' := [.row .int x68 true]) rfl rfl (by kernel_rfl) trivial rfl (trivial) ?_
              refine WD_all [7] (n := 4) (by kernel_rfl) rfl ?_
              refine WM_op (φ := True) (v := I (x68.getD i70.toNat 0)) (H' := [.row .int x68 true]) rfl rfl (by kernel_rfl) trivial rfl (trivial) ?_
              refine WD_all [12] (n := 3) (by kernel_rfl) rfl ?_
              refine WM_op (φ := 0 ≤ i69 ∧ i69 < ((k2 : Nat) : Int)) (v := .one (.e (.rp 0 i69.toNat 0))) (H' := [.row .int x68 true]) rfl rfl (by kernel_rfl) hg94 rfl (trivial) ?_
              refine WD_all [13] (n := 2) (by kernel_rfl) rfl ?_
              refine WM_store (u := .one (.e (.rp 0 i69.toNat 0))) (v := I (x68.getD i70.toNat 0)) (φ := True) (H' := [.row .int (x68.set i69.toNat (x68.getD i70.toNat 0)) true]) rfl rfl rfl rfl rfl (by kernel_rfl) trivial rfl (trivial) ?_
              refine WD_all [14] (n := 1) (by kernel_rfl) rfl ?_
              refine WM_op (φ := 0 ≤ i70 ∧ i70 < ((k2 : Nat) : Int)) (v := .one (.e (.rp 0 i70.toNat 0))) (H' := [.row .int (x68.set i69.toNat (x68.getD i70.toNat 0)) true]) rfl rfl (by kernel_rfl) hg95 rfl (trivial) ?_
              refine WD_all [15] (n := 0) (by kernel_rfl) rfl ?_
              refine WM_store (u := .one (.e (.rp 0 i70.toNat 0))) (v := I (x68.getD i69.toNat 0)) (φ := True) (H' := [.row .int ((x68.set i69.toNat (x68.getD i70.toNat 0)).set i70.toNat (x68.getD i69.toNat 0)) true]) rfl rfl rfl rfl rfl (by kernel_rfl) trivial rfl (trivial) ?_
              exact WD_done [0] [0, 2, 3] (st' := ⟨[(0, .one (.e (.sl 0 0 k2))), (2, I i69), (3, I i70)], [.row .int ((x68.set i69.toNat (x68.getD i70.toNat 0)).set i70.toNat (x68.getD i69.toNat 0)) true]⟩) (by kernel_rfl) (by kernel_rfl) (And.intro rfl rfl)
          · refine WM_op (φ := True) (v := I (x68.getD i69.toNat 0)) (H' := [.row .int x68 true]) rfl rfl (by kernel_rfl) trivial rfl (trivial) ?_
            refine WD_all [6] (n := 5) (by kernel_rfl) rfl ?_
            refine WM_op (φ := 0 ≤ i70 ∧ i70 < ((k2 : Nat) : Int)) (v := .one (.e (.rp 0 i70.toNat 0))) (H' := [.row .int x68 true]) rfl rfl (by kernel_rfl) hg92 rfl (trivial) ?_
            refine WD_all [7] (n := 4) (by kernel_rfl) rfl ?_
            refine WM_op (φ := True) (v := I (x68.getD i70.toNat 0)) (H' := [.row .int x68 true]) rfl rfl (by kernel_rfl) trivial rfl (trivial) ?_
            refine WD_all [12] (n := 3) (by kernel_rfl) rfl ?_
            refine WM_op (φ := 0 ≤ i69 ∧ i69 < ((k2 : Nat) : Int)) (v := .one (.e (.rp 0 i69.toNat 0))) (H' := [.row .int x68 true]) rfl rfl (by kernel_rfl) hg94 rfl (trivial) ?_
            refine WD_all [13] (n := 2) (by kernel_rfl) rfl ?_
            refine WM_store (u := .one (.e (.rp 0 i69.toNat 0))) (v := I (x68.getD i70.toNat 0)) (φ := True) (H' := [.row .int (x68.set i69.toNat (x68.getD i70.toNat 0)) true]) rfl rfl rfl rfl rfl (by kernel_rfl) trivial rfl (trivial) ?_
            refine WD_all [14] (n := 1) (by kernel_rfl) rfl ?_
            refine WM_op (φ := 0 ≤ i70 ∧ i70 < ((k2 : Nat) : Int)) (v := .one (.e (.rp 0 i70.toNat 0))) (H' := [.row .int (x68.set i69.toNat (x68.getD i70.toNat 0)) true]) rfl rfl (by kernel_rfl) hg95 rfl (trivial) ?_
            refine WD_all [15] (n := 0) (by kernel_rfl) rfl ?_
            refine WM_store (u := .one (.e (.rp 0 i70.toNat 0))) (v := I (x68.getD i69.toNat 0)) (φ := True) (H' := [.row .int ((x68.set i69.toNat (x68.getD i70.toNat 0)).set i70.toNat (x68.getD i69.toNat 0)) true]) rfl rfl rfl rfl rfl (by kernel_rfl) trivial rfl (trivial) ?_
            exact WD_done [0] [0, 2, 3] (st' := ⟨[(0, .one (.e (.sl 0 0 k2))), (2, I i69), (3, I i70)], [.row .int ((x68.set i69.toNat (x68.getD i70.toNat 0)).set i70.toNat (x68.getD i69.toNat 0)) true]⟩) (by kernel_rfl) (by kernel_rfl) (And.intro rfl rfl)
      · rintro _ _ ⟨rfl, rfl⟩
        refine blockS_n ?_
        refine thenS_n ?_
        refine W_region ?_
        refine WO_step 6 [0] [0, 2, 3] (True ∧ (True ∧ True)) ⟨[(0, .one (.e (.sl 0 0 k2))), (2, I (w64 (i69 + 1))), (3, I (w64 (i70 - 1)))], [.row .int ((x68.set i69.toNat (x68.getD i70.toNat 0)).set i70.toNat (x68.getD i69.toNat 0)) true]⟩ (by kernel_rfl) ⟨trivial, trivial, trivial⟩ ?_
        refine WO_nil rfl ?_
        refine thenS_n ?_
        exact ih _ _ _ h
    · refine W_sub [0] [] (st' := ⟨[], [.row .int x68 true]⟩) (by kernel_rfl) ?_
      refine W_exit ?_
      refine thenS_e ?_
      refine thenS_e ?_
      cases h
      exact And.intro rfl rfl

def slices_Reverse_int_int (n : Nat) (x1 : List Int) (k2 : Nat) : Option ((List Int)) :=
 bindO (slices_Reverse_int_int_L1 k2 n x1 0 (w64 (((k2 : Nat) : Int) - 1))) fun x84 =>
 some x84

theorem slices_Reverse_int_int_ok (n : Nat) (x1 : List Int) (k2 : Nat) (x49 : List Int) (h : slices_Reverse_int_int n x1 k2 = some x49) : FOk EE 47 [.one (.e (.sl 0 0 k2))] [.row .int x1 true] (.tup []) [.row .int x49 true] := by
  unfold slices_Reverse_int_int at h
  refine FOk_of_W 28 1 Try.func47 rfl rfl (Nat.le_of_ble_eq_true rfl) rfl (fun w X θ => ?_)
  refine W_seq ?_
  refine W_region ?_
  refine WO_step 5 [0] [0, 2, 3] (True ∧ (True ∧ True)) ⟨[(0, .one (.e (.sl 0 0 k2))), (2, I 0), (3, I (w64 (((k2 : Nat) : Int) - 1)))], [.row .int x1 true]⟩ (by kernel_rfl) ⟨trivial, trivial, trivial⟩ ?_
  refine WO_nil rfl ?_
  refine thenS_n ?_
  refine W_block ?_
  refine W_loop ?_
  refine bindO_e h (fun x84 hx84 h => ?_)
  refine WL_cut (slices_Reverse_int_int_L1_ok w X θ k2 x84 n x1 0 (w64 (((k2 : Nat) : Int) - 1)) hx84) ?_
  rintro _ _ ⟨rfl, rfl⟩
  refine blockS_y ?_
  cases h
  exact ⟨[0], True, by kernel_rfl, trivial⟩

/- impl.PathTo -/
def impl_PathTo_L1 (x1 : List Nod) : Nat → (List Int) → Int → Option ((List Int))
| 0, _, _ => none
| n + 1, x53, i54 =>
 iteO (decide (0 ≤ i54))
 (guardO (0 = 0 ∧ x53.length = x53.length ∧ x53.length + (([i54].drop 0).take ([i54].length)).length ≤ 1099511627776) <|
 guardO (0 ≤ i54 ∧ i54 < ((x1.length : Nat) : Int)) <|
 impl_PathTo_L1 x1 n (x53 ++ (([i54].drop 0).take ([i54].length))) ((x1.getD i54.toNat dnod).parent))
 (some x53)

theorem impl_PathTo_L1_ok (w : World) (X : Nat → Prop) (θ : List Loc) (x1 : List Nod) (x62 : (List Int)) : ∀ (n : Nat) (x53 : List Int) (i54 : Int), impl_PathTo_L1 x1 n x53 i54 = some x62 → WL EE ⟨w, X, θ, 26, 1⟩ (subC [1, 1, 1, 0, 1, 4, 4] (bodyC Try.f31)) (fun (e : Exit) (s : St) => e = .exit 0 ∧ s = ⟨[(5, .one (.e (.sl 1 0 x62.length)))], [.row .nod x1 false, .row .int x62 true]⟩) ⟨[(0, .one (.e (.sl 0 0 x1.length))), (5, .one (.e (.sl 1 0 x53.length))), (6, I i54)], [.row .nod x1 false, .row .int x53 true]⟩ := by
  intro n
  induction n with
  | zero => intro _ _ h; exact none_e h
  | succ n ih =>
    intro x53 i54 h
    rw [impl_PathTo_L1] at h
    refine WL_round ?_
    refine W_seq ?_
    refine W_seq ?_
    refine W_region ?_
    refine WO_step 2 [0, 1] [0, 5, 6, 13] (True ∧ True) ⟨[(0, .one (.e (.sl 0 0 x1.length))), (5, .one (.e (.sl 1 0 x53.length))), (6, I i54), (13, B (decide (0 ≤ i54)))], [.row .nod x1 false, .row .int x53 true]⟩ (by kernel_rfl) ⟨trivial, trivial⟩ ?_
    refine WO_nil rfl ?_
    refine thenS_n ?_
    refine iteO_e h (fun hb65 h => W_true rfl hb65 ?_) (fun hb65 h => W_false rfl hb65 ?_)
    · refine W_sub [0, 1] [0, 5, 6] (st' := ⟨[(0, .one (.e (.sl 0 0 x1.length))), (5, .one (.e (.sl 1 0 x53.length))), (6, I i54)], [.row .nod x1 false, .row .int x53 true]⟩) (by kernel_rfl) ?_
      refine W_skip ?_
      refine thenS_n ?_
      refine W_seq ?_
      refine W_block ?_
      refine W_region ?_
      refine guardO_e h (fun hg67 h => ?_)
      refine WO_step 5 [0, 3] [0, 5, 6] ((0 = 0 ∧ x53.length = x53.length ∧ x53.length + (([i54].drop 0).take ([i54].length)).length ≤ 1099511627776) ∧ True) ⟨[(0, .one (.e (.sl 0 0 x1.length))), (5, .one (.e (.sl 1 0 ((x53 ++ (([i54].drop 0).take ([i54].length))).length)))), (6, I i54)], [.row .nod x1 false, .row .int (x53 ++ (([i54].drop 0).take ([i54].length))) true]⟩ (by kernel_rfl) ⟨hg67, trivial⟩ ?_
      refine WO_nil rfl ?_
      refine blockS_n ?_
      refine thenS_n ?_
      refine W_region ?_
      refine guardO_e h (fun hg68 h => ?_)
      refine WO_step 6 [0, 1] [0, 5, 6] ((0 ≤ i54 ∧ i54 < ((x1.length : Nat) : Int)) ∧ (True ∧ True)) ⟨[(0, .one (.e (.sl 0 0 x1.length))), (5, .one (.e (.sl 1 0 ((x53 ++ (([i54].drop 0).take ([i54].length))).length)))), (6, I ((x1.getD i54.toNat dnod).parent))], [.row .nod x1 false, .row .int (x53 ++ (([i54].drop 0).take ([i54].length))) true]⟩ (by kernel_rfl) ⟨hg68, trivial, trivial⟩ ?_
      refine WO_nil rfl ?_
      refine thenS_n ?_
      exact ih _ _ h
    · refine W_sub [0, 1] [5] (st' := ⟨[(5, .one (.e (.sl 1 0 x53.length)))], [.row .nod x1 false, .row .int x53 true]⟩) (by kernel_rfl) ?_
      refine W_exit ?_
      refine thenS_e ?_
      refine thenS_e ?_
      cases h
      exact And.intro rfl rfl

def impl_PathTo (n : Nat) (x1 : List Nod) (i2 : Int) : Option ((List Int)) :=
 bindO (impl_isNode n x1 i2) fun b38 =>
 iteO (!b38)
 (some ([] : List Int))
 (bindO (impl_PathTo_L1 x1 n ([] : List Int) i2) fun x62 =>
 bindO (slices_Reverse_int_int n x62 x62.length) fun x70 =>
 guardO (x62.length = x70.length) <|
 some x70)

theorem impl_PathTo_ok (n : Nat) (x1 : List Nod) (i2 : Int) (x37 : List Int) (h : impl_PathTo n x1 i2 = some x37) : FOk EE 31 [.one (.e (.sl 0 0 x1.length)), I i2] [.row .nod x1 false] (.one (.e (.sl 1 0 x37.length))) [.row .nod x1 false, .row .int x37 true] := by
  unfold impl_PathTo at h
  refine FOk_of_W 26 1 Try.func31 rfl rfl (Nat.le_of_ble_eq_true rfl) rfl (fun w X θ => ?_)
  refine W_seq ?_
  refine W_region ?_
  refine WO_step 1 [0] [0, 1] True ⟨[(0, .one (.e (.sl 0 0 x1.length))), (1, I i2)], [.row .nod x1 false]⟩ (by kernel_rfl) trivial ?_
  refine WO_nil rfl ?_
  refine thenS_n ?_
  refine W_seq ?_
  refine W_seq ?_
  refine W_region ?_
  refine WO_step 2 [0] [0, 1, 7, 8] True ⟨[(0, .one (.e (.sl 0 0 x1.length))), (1, I i2), (7, .one (.e (.sl 0 0 x1.length))), (8, I i2)], [.row .nod x1 false]⟩ (by kernel_rfl) trivial ?_
  refine bindO_e h (fun b38 hc39 h => ?_)
  refine WO_call [.ro 0] Try.f46 rfl rfl rfl (by kernel_rfl) rfl rfl (by kernel_rfl) (impl_isNode_ok n x1 i2 b38 hc39) (And.intro (And.intro rfl rfl) (trivial)) rfl ?_
  refine WO_step 1 [0] [0, 1, 10] True ⟨[(0, .one (.e (.sl 0 0 x1.length))), (1, I i2), (10, B (!b38))], [.row .nod x1 false]⟩ (by kernel_rfl) trivial ?_
  refine WO_nil rfl ?_
  refine thenS_n ?_
  refine iteO_e h (fun hb41 h => W_true rfl hb41 ?_) (fun hb41 h => W_false rfl hb41 ?_)
  · refine W_seq ?_
    refine W_region ?_
    refine WO_step 1 [0] [4] True ⟨[(4, .one (.e (.nsl)))], [.row .nod x1 false]⟩ (by kernel_rfl) trivial ?_
    refine WO_nilrow 4 .int rfl ?_
    refine WO_sub [0, 1] [4] (st' := ⟨[(4, .one (.e (.sl 1 0 (([] : List Int).length))))], [.row .nod x1 false, .row .int ([] : List Int) true]⟩) (by kernel_rfl) ?_
    refine WO_nil rfl ?_
    refine thenS_n ?_
    refine W_ret ?_
    refine thenS_r ?_
    cases h
    exact ⟨[0, 1], True, by kernel_rfl, trivial⟩
  · refine W_sub [0] [0, 1] (st' := ⟨[(0, .one (.e (.sl 0 0 x1.length))), (1, I i2)], [.row .nod x1 false]⟩) (by kernel_rfl) ?_
    refine W_skip ?_
    refine thenS_n ?_
    refine W_seq ?_
    refine W_region ?_
    refine WO_step 1 [0] [0, 1, 5] True ⟨[(0, .one (.e (.sl 0 0 x1.length))), (1, I i2), (5, .one (.e (.nsl)))], [.row .nod x1 false]⟩ (by kernel_rfl) trivial ?_
    refine WO_nilrow 5 .int rfl ?_
    refine WO_sub [0, 1] [0, 1, 5] (st' := ⟨[(0, .one (.e (.sl 0 0 x1.length))), (1, I i2), (5, .one (.e (.sl 1 0 (([] : List Int).length))))], [.row .nod x1 false, .row .int ([] : List Int) true]⟩) (by kernel_rfl) ?_
    refine WO_nil rfl ?_
    refine thenS_n ?_
    refine W_seq ?_
    refine W_seq ?_
    refine W_region ?_
    refine WO_step 2 [0, 1] [0, 5, 6] True ⟨[(0, .one (.e (.sl 0 0 x1.length))), (5, .one (.e (.sl 1 0 (([] : List Int).length)))), (6, I i2)], [.row .nod x1 false, .row .int ([] : List Int) true]⟩ (by kernel_rfl) trivial ?_
    refine WO_nil rfl ?_
    refine thenS_n ?_
    refine W_block ?_
    refine W_loop ?_
    refine bindO_e h (fun x62 hx62 h => ?_)
    refine WL_cut (impl_PathTo_L1_ok w X θ x1 x62 n ([] : List Int) i2 hx62) ?_
    rintro _ _ ⟨rfl, rfl⟩
    refine blockS_y ?_
    refine thenS_n ?_
    refine W_seq ?_
    refine W_region ?_
    refine WO_step 1 [0, 1] [5, 23] True ⟨[(5, .one (.e (.sl 1 0 x62.length))), (23, .one (.e (.sl 1 0 x62.length)))], [.row .nod x1 false, .row .int x62 true]⟩ (by kernel_rfl) trivial ?_
    refine bindO_e h (fun x70 hc71 h => ?_)
    refine guardO_e h (fun hl72 h => ?_)
    refine WO_call [.own 1] Try.f47 rfl rfl rfl (by kernel_rfl) rfl rfl (by kernel_rfl) (slices_Reverse_int_int_ok n x62 x62.length x70 hc71) (And.intro (And.intro rfl (And.intro rfl hl72)) (trivial)) rfl ?_
    refine WO_sub [0, 1] [5, 23] (st' := ⟨[(5, .one (.e (.sl 1 0 x62.length))), (23, .one (.e (.sl 1 0 x62.length)))], [.row .nod x1 false, .row .int x70 true]⟩) (by kernel_rfl) ?_
    refine WO_eq (st' := ⟨[(5, .one (.e (.sl 1 0 x70.length))), (23, .one (.e (.sl 1 0 x70.length)))], [.row .nod x1 false, .row .int x70 true]⟩) (by simp only [hl72]) ?_
    refine WO_sub [0, 1] [5] (st' := ⟨[(5, .one (.e (.sl 1 0 x70.length)))], [.row .nod x1 false, .row .int x70 true]⟩) (by kernel_rfl) ?_
    refine WO_nil rfl ?_
    refine thenS_n ?_
    refine W_seq ?_
    refine W_region ?_
    refine WO_step 2 [0, 1] [4] True ⟨[(4, .one (.e (.sl 1 0 x70.length)))], [.row .nod x1 false, .row .int x70 true]⟩ (by kernel_rfl) trivial ?_
    refine WO_nil rfl ?_
    refine thenS_n ?_
    refine W_ret ?_
    cases h
    exact ⟨[0, 1], True, by kernel_rfl, trivial⟩

/- (*strings.Builder).copyCheck -/
def lays240R : Shelf.Ren := ⟨fun n => match n with | 240 => 48 | 276 => 62 | _ => 0, fun n => match n with | 0 => 0 | 4 => 4 | 9 => 9 | 20 => 20 | 70 => 61 | 72 => 63 | 164 => 90 | 37 => 28 | 5 => 5 | _ => 0, fun n => n⟩
set_option maxRecDepth 100000 in
theorem lays240 : Lays.n240 Try.prog lays240R := {
  mixed := by kernel_rfl
  f240 := by kernel_rfl
  f276 := by kernel_rfl
  t0 := Try.underlying0
  a0 := Try.isAgg0
  z0 := Try.sizeOf0
  v0 := Try.zeroValue0
  t4 := Try.underlying4
  a4 := Try.isAgg4
  z4 := Try.sizeOf4
  v4 := Try.zeroValue4
  t9 := Try.underlying9
  a9 := Try.isAgg9
  z9 := Try.sizeOf9
  v9 := Try.zeroValue9
  t20 := Try.underlying20
  a20 := Try.isAgg20
  z20 := Try.sizeOf20
  v20 := Try.zeroValue20
  t70 := Try.underlying61
  a70 := Try.isAgg61
  z70 := Try.sizeOf61
  v70 := Try.zeroValue61
  t72 := Try.underlying63
  a72 := Try.isAgg63
  z72 := Try.sizeOf63
  v72 := Try.zeroValue63
  t164 := Try.underlying90
  a164 := Try.isAgg90
  z164 := Try.sizeOf90
  v164 := Try.zeroValue90 }
theorem x72 : Builder.X72 Try.prog lays240R := {
  sizeBuilder := by kernel_rfl
  liesBuilder := by kernel_rfl }
theorem copyCheck_ok (x1 : List Int) : FOk EE 48 [.one (.e (.p 0 0))] [.cells [.sp 0 63, .bsl 1 x1.length], .row .u8 x1 true] (.tup []) [.cells [.sp 0 63, .bsl 1 x1.length], .row .u8 x1 true] := by
  refine FOk_copy (fun b w h0 h1 h2 => ?_) (fun b w h0 => ?_) x1.length x1
  · exact Any.Builder_copyCheck_fresh lays240 x72 b w h0 h1 h2
  · exact Any.Builder_copyCheck_used lays240 x72 b w h0

/- (*strings.Builder).WriteByte -/
def strings_Builder_WriteByte (x1 : List Int) (i2 : Int) : Option ((List Int)) :=
 guardO (0 = 0 ∧ x1.length = x1.length ∧ x1.length + (([i2].drop 0).take ([i2].length)).length ≤ 1099511627776) <|
 some (x1 ++ (([i2].drop 0).take ([i2].length)))

theorem strings_Builder_WriteByte_ok (x1 : List Int) (i2 : Int) (x4 : List Int) (h : strings_Builder_WriteByte x1 i2 = some x4) : FOk EE 32 [.one (.e (.p 0 0)), U i2] [.cells [.sp 0 63, .bsl 1 x1.length], .row .u8 x1 true] (.one (.e (.nif))) [.cells [.sp 0 63, .bsl 2 x4.length], .dead, .row .u8 x4 true] := by
  unfold strings_Builder_WriteByte at h
  refine FOk_of_W 17 2 Try.func32 rfl rfl (Nat.le_of_ble_eq_true rfl) rfl (fun w X θ => ?_)
  refine W_seq ?_
  refine W_region ?_
  refine WO_step 1 [0, 1] [0, 1] True ⟨[(0, .one (.e (.p 0 0))), (1, U i2)], [.cells [.sp 0 63, .bsl 1 x1.length], .row .u8 x1 true]⟩ (by kernel_rfl) trivial ?_
  refine WO_nil rfl ?_
  refine thenS_n ?_
  refine W_seq ?_
  refine W_region ?_
  refine WO_step 1 [0, 1] [0, 1, 5] True ⟨[(0, .one (.e (.p 0 0))), (1, U i2), (5, .one (.e (.p 0 0)))], [.cells [.sp 0 63, .bsl 1 x1.length], .row .u8 x1 true]⟩ (by kernel_rfl) trivial ?_
  refine WO_call [.own 0, .own 1] Try.f48 rfl rfl rfl (by kernel_rfl) rfl rfl (by kernel_rfl) (copyCheck_ok x1) (And.intro (trivial) (And.intro (And.intro rfl (And.intro rfl rfl)) (trivial))) rfl ?_
  refine WO_sub [0, 1] [0, 1] (st' := ⟨[(0, .one (.e (.p 0 0))), (1, U i2)], [.cells [.sp 0 63, .bsl 1 x1.length], .row .u8 x1 true]⟩) (by kernel_rfl) ?_
  refine WO_nil rfl ?_
  refine thenS_n ?_
  refine W_seq ?_
  refine W_region ?_
  refine guardO_e h (fun hg5 h => ?_)
  refine WO_step 11 [0, 1, 3] [] (True ∧ ((0 = 0 ∧ x1.length = x1.length ∧ x1.length + (([i2].drop 0).take ([i2].length)).length ≤ 1099511627776) ∧ (True ∧ True))) ⟨[], [.cells [.sp 0 63, .bsl 2 ((x1 ++ (([i2].drop 0).take ([i2].length))).length)], .dead, .row .u8 (x1 ++ (([i2].drop 0).take ([i2].length))) true]⟩ (by kernel_rfl) ⟨trivial, hg5, trivial, trivial⟩ ?_
  refine WO_nil rfl ?_
  refine thenS_n ?_
  refine W_seq ?_
  refine W_region ?_
  refine WO_step 1 [0, 1, 2] [4] True ⟨[(4, .one (.e (.nif)))], [.cells [.sp 0 63, .bsl 2 ((x1 ++ (([i2].drop 0).take ([i2].length))).length)], .dead, .row .u8 (x1 ++ (([i2].drop 0).take ([i2].length))) true]⟩ (by kernel_rfl) trivial ?_
  refine WO_nil rfl ?_
  refine thenS_n ?_
  refine W_ret ?_
  cases h
  exact ⟨[0, 1, 2], True, by kernel_rfl, trivial⟩

/- (*strings.Builder).WriteString -/
def strings_Builder_WriteString (x1 : List Int) (s2 : Str) : Option ((List Int) × Int) :=
 guardO (0 = 0 ∧ x1.length = x1.length ∧ x1.length + ((s2 : Str).map fun b => ((b.toNat : Nat) : Int)).length ≤ 1099511627776) <|
 some ((x1 ++ ((s2 : Str).map fun b => ((b.toNat : Nat) : Int))), ((s2.length : Nat) : Int))

theorem strings_Builder_WriteString_ok (x1 : List Int) (s2 : Str) (x4 : List Int) (i5 : Int) (h : strings_Builder_WriteString x1 s2 = some (x4, i5)) : FOk EE 33 [.one (.e (.p 0 0)), S s2] [.cells [.sp 0 63, .bsl 1 x1.length], .row .u8 x1 true] (.tup [.e (cI i5), .e (.nif)]) [.cells [.sp 0 63, .bsl 2 x4.length], .dead, .row .u8 x4 true] := by
  unfold strings_Builder_WriteString at h
  refine FOk_of_W 19 2 Try.func33 rfl rfl (Nat.le_of_ble_eq_true rfl) rfl (fun w X θ => ?_)
  refine W_seq ?_
  refine W_region ?_
  refine WO_step 2 [0, 1] [0, 1] True ⟨[(0, .one (.e (.p 0 0))), (1, S s2)], [.cells [.sp 0 63, .bsl 1 x1.length], .row .u8 x1 true]⟩ (by kernel_rfl) trivial ?_
  refine WO_nil rfl ?_
  refine thenS_n ?_
  refine W_seq ?_
  refine W_region ?_
  refine WO_step 1 [0, 1] [0, 1, 6] True ⟨[(0, .one (.e (.p 0 0))), (1, S s2), (6, .one (.e (.p 0 0)))], [.cells [.sp 0 63, .bsl 1 x1.length], .row .u8 x1 true]⟩ (by kernel_rfl) trivial ?_
  refine WO_call [.own 0, .own 1] Try.f48 rfl rfl rfl (by kernel_rfl) rfl rfl (by kernel_rfl) (copyCheck_ok x1) (And.intro (trivial) (And.intro (And.intro rfl (And.intro rfl rfl)) (trivial))) rfl ?_
  refine WO_sub [0, 1] [0, 1] (st' := ⟨[(0, .one (.e (.p 0 0))), (1, S s2)], [.cells [.sp 0 63, .bsl 1 x1.length], .row .u8 x1 true]⟩) (by kernel_rfl) ?_
  refine WO_nil rfl ?_
  refine thenS_n ?_
  refine W_seq ?_
  refine W_region ?_
  refine guardO_e h (fun hg6 h => ?_)
  refine WO_step 10 [0, 1, 2] [1] (True ∧ ((0 = 0 ∧ x1.length = x1.length ∧ x1.length + ((s2 : Str).map fun b => ((b.toNat : Nat) : Int)).length ≤ 1099511627776) ∧ (True ∧ True))) ⟨[(1, S s2)], [.cells [.sp 0 63, .bsl 2 ((x1 ++ ((s2 : Str).map fun b => ((b.toNat : Nat) : Int))).length)], .dead, .row .u8 (x1 ++ ((s2 : Str).map fun b => ((b.toNat : Nat) : Int))) true]⟩ (by kernel_rfl) ⟨trivial, hg6, trivial, trivial⟩ ?_
  refine WO_nil rfl ?_
  refine thenS_n ?_
  refine W_seq ?_
  refine W_region ?_
  refine WO_step 4 [0, 1, 2] [4, 5] (True ∧ True) ⟨[(4, I ((s2.length : Nat) : Int)), (5, .one (.e (.nif)))], [.cells [.sp 0 63, .bsl 2 ((x1 ++ ((s2 : Str).map fun b => ((b.toNat : Nat) : Int))).length)], .dead, .row .u8 (x1 ++ ((s2 : Str).map fun b => ((b.toNat : Nat) : Int))) true]⟩ (by kernel_rfl) ⟨trivial, trivial⟩ ?_
  refine WO_nil rfl ?_
  refine thenS_n ?_
  refine W_ret ?_
  cases h
  exact ⟨[0, 1, 2], True, by kernel_rfl, trivial⟩

/- (*strings.Builder).String -/
def strings_Builder_String (x1 : List Int) : Option (Nat × Str) :=
 guardO (((x1.length : Nat) : Int) = (x1.length : Int) ∧ ∀ x ∈ x1, 0 ≤ x ∧ x ≤ 255) <|
 some (x1.length, (bytesOf x1))

theorem strings_Builder_String_ok (x1 : List Int) (k3 : Nat) (s4 : Str) (h : strings_Builder_String x1 = some (k3, s4)) : FOk EE 34 [.one (.e (.p 0 0))] [.cells [.sp 0 63, .bsl 1 x1.length], .row .u8 x1 true] (S s4) [.cells [.sp 0 63, .bsl 1 k3], .dead] := by
  unfold strings_Builder_String at h
  refine FOk_of_W 14 2 Try.func34 rfl rfl (Nat.le_of_ble_eq_true rfl) rfl (fun w X θ => ?_)
  refine W_seq ?_
  refine W_region ?_
  refine WO_step 1 [0, 1] [0] True ⟨[(0, .one (.e (.p 0 0)))], [.cells [.sp 0 63, .bsl 1 x1.length], .row .u8 x1 true]⟩ (by kernel_rfl) trivial ?_
  refine WO_nil rfl ?_
  refine thenS_n ?_
  refine W_seq ?_
  refine guardO_e h (fun hg5 h => ?_)
  refine W_cut (Q' := fun (e : Exit) (s : St) => e = .normal ∧ s = ⟨[(2, S (bytesOf x1))], [.cells [.sp 0 63, .bsl 1 x1.length], .dead]⟩) ?_ ?_
  · refine W_draw [1] false (by kernel_rfl) (by kernel_rfl) ?_
    refine WD_takeK [0, 1, 2, 5, 6, 7] [5, 10] [5, 10] (φ := True) (ls' := #[true, true, true, false, false, true, true, true, false, false, false, false]) (Ts' := [(5, .one (.e (.p 0 1))), (10, .one (.e (.p 0 1)))]) (st' := ⟨[(5, .one (.e (.p 0 1))), (10, .one (.e (.p 0 1)))], [.cells [.sp 0 63, .bsl 1 x1.length], .row .u8 x1 true]⟩) (n2 := 6) (by kernel_rfl) trivial rfl ?_
    refine WD_all [3, 8] (n := 5) (by kernel_rfl) rfl (And.intro ?_ (?_))
    · refine WM_op (φ := True) (v := .one (.e (.bsl 1 x1.length))) (H' := [.cells [.sp 0 63, .bsl 1 x1.length], .row .u8 x1 true]) rfl rfl (by kernel_rfl) trivial rfl (And.intro (And.intro rfl rfl) (trivial)) ?_
      refine WD_all [4, 8] (n := 4) (by kernel_rfl) rfl (And.intro ?_ (?_))
      · refine WM_op (φ := True) (v := .one (.e (.sd 1))) (H' := [.cells [.sp 0 63, .bsl 1 x1.length], .row .u8 x1 true]) rfl rfl (by kernel_rfl) trivial rfl (And.intro (And.intro rfl rfl) (trivial)) ?_
        refine WD_all [8] (n := 3) (by kernel_rfl) rfl ?_
        refine WM_op (φ := True) (v := .one (.e (.bsl 1 x1.length))) (H' := [.cells [.sp 0 63, .bsl 1 x1.length], .row .u8 x1 true]) rfl rfl (by kernel_rfl) trivial rfl (And.intro (And.intro rfl rfl) (trivial)) ?_
        refine WD_all [9] (n := 2) (by kernel_rfl) rfl ?_
        refine WM_op (φ := True) (v := I ((x1.length : Nat) : Int)) (H' := [.cells [.sp 0 63, .bsl 1 x1.length], .row .u8 x1 true]) rfl rfl (by kernel_rfl) trivial rfl (And.intro (And.intro rfl rfl) (trivial)) ?_
        refine WD_all [10] (n := 1) (by kernel_rfl) rfl ?_
        refine WM_op (φ := ((x1.length : Nat) : Int) = (x1.length : Int) ∧ ∀ x ∈ x1, 0 ≤ x ∧ x ≤ 255) (v := S (bytesOf x1)) (H' := [.cells [.sp 0 63, .bsl 1 x1.length], .dead]) rfl rfl (by kernel_rfl) hg5 rfl (And.intro (And.intro rfl rfl) (trivial)) ?_
        refine WD_takeK [11] [2] [2] (φ := True) (ls' := #[true, true, true, true, true, true, true, true, true, true, true, true]) (Ts' := [(2, S (bytesOf x1))]) (st' := ⟨[(2, S (bytesOf x1))], [.cells [.sp 0 63, .bsl 1 x1.length], .dead]⟩) (n2 := 0) (by kernel_rfl) trivial rfl ?_
        exact WD_done [0, 1] [2] (st' := ⟨[(2, S (bytesOf x1))], [.cells [.sp 0 63, .bsl 1 x1.length], .dead]⟩) (by kernel_rfl) (by kernel_rfl) (And.intro rfl rfl)
      · refine WM_op (φ := True) (v := .one (.e (.bsl 1 x1.length))) (H' := [.cells [.sp 0 63, .bsl 1 x1.length], .row .u8 x1 true]) rfl rfl (by kernel_rfl) trivial rfl (And.intro (And.intro rfl rfl) (trivial)) ?_
        refine WD_all [4, 9] (n := 3) (by kernel_rfl) rfl (And.intro ?_ (?_))
        · refine WM_op (φ := True) (v := .one (.e (.sd 1))) (H' := [.cells [.sp 0 63, .bsl 1 x1.length], .row .u8 x1 true]) rfl rfl (by kernel_rfl) trivial rfl (And.intro (And.intro rfl rfl) (trivial)) ?_
          refine WD_all [9] (n := 2) (by kernel_rfl) rfl ?_
          refine WM_op (φ := True) (v := I ((x1.length : Nat) : Int)) (H' := [.cells [.sp 0 63, .bsl 1 x1.length], .row .u8 x1 true]) rfl rfl (by kernel_rfl) trivial rfl (And.intro (And.intro rfl rfl) (trivial)) ?_
          refine WD_all [10] (n := 1) (by kernel_rfl) rfl ?_
          refine WM_op (φ := ((x1.length : Nat) : Int) = (x1.length : Int) ∧ ∀ x ∈ x1, 0 ≤ x ∧ x ≤ 255) (v := S (bytesOf x1)) (H' := [.cells [.sp 0 63, .bsl 1 x1.length], .dead]) rfl rfl (by kernel_rfl) hg5 rfl (And.intro (And.intro rfl rfl) (trivial)) ?_
          refine WD_takeK [11] [2] [2] (φ := True) (ls' := #[true, true, true, true, true, true, true, true, true, true, true, true]) (Ts' := [(2, S (bytesOf x1))]) (st' := ⟨[(2, S (bytesOf x1))], [.cells [.sp 0 63, .bsl 1 x1.length], .dead]⟩) (n2 := 0) (by kernel_rfl) trivial rfl ?_
          exact WD_done [0, 1] [2] (st' := ⟨[(2, S (bytesOf x1))], [.cells [.sp 0 63, .bsl 1 x1.length], .dead]⟩) (by kernel_rfl) (by kernel_rfl) (And.intro rfl rfl)
        · refine WM_op (φ := True) (v := I ((x1.length : Nat) : Int)) (H' := [.cells [.sp 0 63, .bsl 1 x1.length], .row .u8 x1 true]) rfl rfl (by kernel_rfl) trivial rfl (And.intro (And.intro rfl rfl) (trivial)) ?_
          refine WD_all [4] (n := 2) (by kernel_rfl) rfl ?_
          refine WM_op (φ := True) (v := .one (.e (.sd 1))) (H' := [.cells [.sp 0 63, .bsl 1 x1.length], .row .u8 x1 true]) rfl rfl (by kernel_rfl) trivial rfl (And.intro (And.intro rfl rfl) (trivial)) ?_
          refine WD_all [10] (n := 1) (by kernel_rfl) rfl ?_
          refine WM_op (φ := ((x1.length : Nat) : Int) = (x1.length : Int) ∧ ∀ x ∈ x1, 0 ≤ x ∧ x ≤ 255) (v := S (bytesOf x1)) (H' := [.cells [.sp 0 63, .bsl 1 x1.length], .dead]) rfl rfl (by kernel_rfl) hg5 rfl (And.intro (And.intro rfl rfl) (trivial)) ?_
          refine WD_takeK [11] [2] [2] (φ := True) (ls' := #[true, true, true, true, true, true, true, true, true, true, true, true]) (Ts' := [(2, S (bytesOf x1))]) (st' := ⟨[(2, S (bytesOf x1))], [.cells [.sp 0 63, .bsl 1 x1.length], .dead]⟩) (n2 := 0) (by kernel_rfl) trivial rfl ?_
          exact WD_done [0, 1] [2] (st' := ⟨[(2, S (bytesOf x1))], [.cells [.sp 0 63, .bsl 1 x1.length], .dead]⟩) (by kernel_rfl) (by kernel_rfl) (And.intro rfl rfl)
    · refine WM_op (φ := True) (v := .one (.e (.bsl 1 x1.length))) (H' := [.cells [.sp 0 63, .bsl 1 x1.length], .row .u8 x1 true]) rfl rfl (by kernel_rfl) trivial rfl (And.intro (And.intro rfl rfl) (trivial)) ?_
      refine WD_all [3, 9] (n := 4) (by kernel_rfl) rfl (And.intro ?_ (?_))
      · refine WM_op (φ := True) (v := .one (.e (.bsl 1 x1.length))) (H' := [.cells [.sp 0 63, .bsl 1 x1.length], .row .u8 x1 true]) rfl rfl (by kernel_rfl) trivial rfl (And.intro (And.intro rfl rfl) (trivial)) ?_
        refine WD_all [4, 9] (n := 3) (by kernel_rfl) rfl (And.intro ?_ (?_))
        · refine WM_op (φ := True) (v := .one (.e (.sd 1))) (H' := [.cells [.sp 0 63, .bsl 1 x1.length], .row .u8 x1 true]) rfl rfl (by kernel_rfl) trivial rfl (And.intro (And.intro rfl rfl) (trivial)) ?_
          refine WD_all [9] (n := 2) (by kernel_rfl) rfl ?_
          refine WM_op (φ := True) (v := I ((x1.length : Nat) : Int)) (H' := [.cells [.sp 0 63, .bsl 1 x1.length], .row .u8 x1 true]) rfl rfl (by kernel_rfl) trivial rfl (And.intro (And.intro rfl rfl) (trivial)) ?_
          refine WD_all [10] (n := 1) (by kernel_rfl) rfl ?_
          refine WM_op (φ := ((x1.length : Nat) : Int) = (x1.length : Int) ∧ ∀ x ∈ x1, 0 ≤ x ∧ x ≤ 255) (v := S (bytesOf x1)) (H' := [.cells [.sp 0 63, .bsl 1 x1.length], .dead]) rfl rfl (by kernel_rfl) hg5 rfl (And.intro (And.intro rfl rfl) (trivial)) ?_
          refine WD_takeK [11] [2] [2] (φ := True) (ls' := #[true, true, true, true, true, true, true, true, true, true, true, true]) (Ts' := [(2, S (bytesOf x1))]) (st' := ⟨[(2, S (bytesOf x1))], [.cells [.sp 0 63, .bsl 1 x1.length], .dead]⟩) (n2 := 0) (by kernel_rfl) trivial rfl ?_
          exact WD_done [0, 1] [2] (st' := ⟨[(2, S (bytesOf x1))], [.cells [.sp 0 63, .bsl 1 x1.length], .dead]⟩) (by kernel_rfl) (by kernel_rfl) (And.intro rfl rfl)
        · refine WM_op (φ := True) (v := I ((x1.length : Nat) : Int)) (H' := [.cells [.sp 0 63, .bsl 1 x1.length], .row .u8 x1 true]) rfl rfl (by kernel_rfl) trivial rfl (And.intro (And.intro rfl rfl) (trivial)) ?_
          refine WD_all [4] (n := 2) (by kernel_rfl) rfl ?_
          refine WM_op (φ := True) (v := .one (.e (.sd 1))) (H' := [.cells [.sp 0 63, .bsl 1 x1.length], .row .u8 x1 true]) rfl rfl (by kernel_rfl) trivial rfl (And.intro (And.intro rfl rfl) (trivial)) ?_
          refine WD_all [10] (n := 1) (by kernel_rfl) rfl ?_
          refine WM_op (φ := ((x1.length : Nat) : Int) = (x1.length : Int) ∧ ∀ x ∈ x1, 0 ≤ x ∧ x ≤ 255) (v := S (bytesOf x1)) (H' := [.cells [.sp 0 63, .bsl 1 x1.length], .dead]) rfl rfl (by kernel_rfl) hg5 rfl (And.intro (And.intro rfl rfl) (trivial)) ?_
          refine WD_takeK [11] [2] [2] (φ := True) (ls' := #[true, true, true, true, true, true, true, true, true, true, true, true]) (Ts' := [(2, S (bytesOf x1))]) (st' := ⟨[(2, S (bytesOf x1))], [.cells [.sp 0 63, .bsl 1 x1.length], .dead]⟩) (n2 := 0) (by kernel_rfl) trivial rfl ?_
          exact WD_done [0, 1] [2] (st' := ⟨[(2, S (bytesOf x1))], [.cells [.sp 0 63, .bsl 1 x1.length], .dead]⟩) (by kernel_rfl) (by kernel_rfl) (And.intro rfl rfl)
      · refine WM_op (φ := True) (v := I ((x1.length : Nat) : Int)) (H' := [.cells [.sp 0 63, .bsl 1 x1.length], .row .u8 x1 true]) rfl rfl (by kernel_rfl) trivial rfl (And.intro (And.intro rfl rfl) (trivial)) ?_
        refine WD_all [3] (n := 3) (by kernel_rfl) rfl ?_
        refine WM_op (φ := True) (v := .one (.e (.bsl 1 x1.length))) (H' := [.cells [.sp 0 63, .bsl 1 x1.length], .row .u8 x1 true]) rfl rfl (by kernel_rfl) trivial rfl (And.intro (And.intro rfl rfl) (trivial)) ?_
        refine WD_all [4] (n := 2) (by kernel_rfl) rfl ?_
        refine WM_op (φ := True) (v := .one (.e (.sd 1))) (H' := [.cells [.sp 0 63, .bsl 1 x1.length], .row .u8 x1 true]) rfl rfl (by kernel_rfl) trivial rfl (And.intro (And.intro rfl rfl) (trivial)) ?_
        refine WD_all [10] (n := 1) (by kernel_rfl) rfl ?_
        refine WM_op (φ := ((x1.length : Nat) : Int) = (x1.length : Int) ∧ ∀ x ∈ x1, 0 ≤ x ∧ x ≤ 255) (v := S (bytesOf x1)) (H' := [.cells [.sp 0 63, .bsl 1 x1.length], .dead]) rfl rfl (by kernel_rfl) hg5 rfl (And.intro (And.intro rfl rfl) (trivial)) ?_
        refine WD_takeK [11] [2] [2] (φ := True) (ls' := #[true, true, true, true, true, true, true, true, true, true, true, true]) (Ts' := [(2, S (bytesOf x1))]) (st' := ⟨[(2, S (bytesOf x1))], [.cells [.sp 0 63, .bsl 1 x1.length], .dead]⟩) (n2 := 0) (by kernel_rfl) trivial rfl ?_
        exact WD_done [0, 1] [2] (st' := ⟨[(2, S (bytesOf x1))], [.cells [.sp 0 63, .bsl 1 x1.length], .dead]⟩) (by kernel_rfl) (by kernel_rfl) (And.intro rfl rfl)
  · rintro _ _ ⟨rfl, rfl⟩
    refine thenS_n ?_
    refine W_ret ?_
    cases h
    exact ⟨[0, 1], True, by kernel_rfl, trivial⟩

/- impl.PathText -/
def impl_PathText_L1 (x1 : List Nod) (x81 : List Int) : Nat → (List Int) → Int → Option ((List Int))
| 0, _, _ => none
| n + 1, x112, i113 =>
 iteO (decide (i113 < (((x81.length - 1) : Nat) : Int)))
 (guardO (0 ≤ i113 ∧ i113 < (((x81.length - 1) : Nat) : Int)) <|
 bindO (strings_Builder_WriteByte x112 47) fun x147 =>
 guardO (0 ≤ (x81.getD (1 + i113.toNat) 0) ∧ (x81.getD (1 + i113.toNat) 0) < ((x1.length : Nat) : Int)) <|
 bindO (strings_Builder_WriteString x147 ((x1.getD ((x81.getD (1 + i113.toNat) 0).toNat) dnod).name)) fun (x150, i151) =>
 impl_PathText_L1 x1 x81 n x150 (w64 (i113 + 1)))
 (some x112)

theorem impl_PathText_L1_ok (w : World) (X : Nat → Prop) (θ : List Loc) (x1 : List Nod) (x81 : List Int) (x134 : (List Int)) : ∀ (n : Nat) (x112 : List Int) (i113 : Int), impl_PathText_L1 x1 x81 n x112 i113 = some x134 → WL EE ⟨w, X, θ, 34, 1⟩ (subC [1, 1, 1, 1, 1, 0, 1, 4, 4] (bodyC Try.f15)) (fun (e : Exit) (s : St) => e = .exit 0 ∧ s = ⟨[(6, .one (.e (.p 1 0)))], [.row .nod x1 false, .cells [.sp 1 63, .bsl 2 x134.length], .row .u8 x134 true]⟩) ⟨[(0, .one (.e (.sl 0 0 x1.length))), (6, .one (.e (.p 1 0))), (19, .one (.e (.sl 2 1 (x81.length - 1)))), (20, I (((x81.length - 1) : Nat) : Int)), (21, I i113)], [.row .nod x1 false, .cells [.sp 1 63, .bsl 3 x112.length], .row .int x81 true, .row .u8 x112 true]⟩ := by
  intro n
  induction n with
  | zero => intro _ _ h; exact none_e h
  | succ n ih =>
    intro x112 i113 h
    rw [impl_PathText_L1] at h
    refine WL_round ?_
    refine W_seq ?_
    refine W_region ?_
    refine WO_step 1 [0, 1, 2, 3] [0, 6, 19, 20, 21, 22] (True ∧ True) ⟨[(0, .one (.e (.sl 0 0 x1.length))), (6, .one (.e (.p 1 0))), (19, .one (.e (.sl 2 1 (x81.length - 1)))), (20, I (((x81.length - 1) : Nat) : Int)), (21, I i113), (22, B (decide (i113 < (((x81.length - 1) : Nat) : Int))))], [.row .nod x1 false, .cells [.sp 1 63, .bsl 3 x112.length], .row .int x81 true, .row .u8 x112 true]⟩ (by kernel_rfl) ⟨trivial, trivial⟩ ?_
    refine WO_nil rfl ?_
    refine thenS_n ?_
    refine W_seq ?_
    refine iteO_e h (fun hb137 h => W_true rfl hb137 ?_) (fun hb137 h => W_false rfl hb137 ?_)
    · refine W_sub [0, 1, 2, 3] [0, 6, 19, 20, 21] (st' := ⟨[(0, .one (.e (.sl 0 0 x1.length))), (6, .one (.e (.p 1 0))), (19, .one (.e (.sl 2 1 (x81.length - 1)))), (20, I (((x81.length - 1) : Nat) : Int)), (21, I i113)], [.row .nod x1 false, .cells [.sp 1 63, .bsl 3 x112.length], .row .int x81 true, .row .u8 x112 true]⟩) (by kernel_rfl) ?_
      refine W_skip ?_
      refine thenS_n ?_
      refine W_seq ?_
      refine W_block ?_
      refine W_seq ?_
      refine W_region ?_
      refine guardO_e h (fun hg146 h => ?_)
      refine WO_step 3 [0, 1, 2, 3] [0, 6, 8, 19, 20, 21] ((0 ≤ i113 ∧ i113 < (((x81.length - 1) : Nat) : Int)) ∧ (True ∧ True)) ⟨[(0, .one (.e (.sl 0 0 x1.length))), (6, .one (.e (.p 1 0))), (8, I (x81.getD (1 + i113.toNat) 0)), (19, .one (.e (.sl 2 1 (x81.length - 1)))), (20, I (((x81.length - 1) : Nat) : Int)), (21, I i113)], [.row .nod x1 false, .cells [.sp 1 63, .bsl 3 x112.length], .row .int x81 true, .row .u8 x112 true]⟩ (by kernel_rfl) ⟨hg146, trivial, trivial⟩ ?_
      refine WO_nil rfl ?_
      refine thenS_n ?_
      refine W_seq ?_
      refine W_region ?_
      refine bindO_e h (fun x147 hc148 h => ?_)
      refine WO_call [.own 1, .own 3] Try.f32 rfl rfl rfl (by kernel_rfl) rfl rfl (by kernel_rfl) (strings_Builder_WriteByte_ok x112 47 x147 hc148) (And.intro (trivial) (And.intro (trivial) (trivial))) rfl ?_
      refine WO_sub [0, 1, 2, 4] [0, 6, 8, 19, 20, 21] (st' := ⟨[(0, .one (.e (.sl 0 0 x1.length))), (6, .one (.e (.p 1 0))), (8, I (x81.getD (1 + i113.toNat) 0)), (19, .one (.e (.sl 2 1 (x81.length - 1)))), (20, I (((x81.length - 1) : Nat) : Int)), (21, I i113)], [.row .nod x1 false, .cells [.sp 1 63, .bsl 3 x147.length], .row .int x81 true, .row .u8 x147 true]⟩) (by kernel_rfl) ?_
      refine WO_nil rfl ?_
      refine thenS_n ?_
      refine W_region ?_
      refine guardO_e h (fun hg149 h => ?_)
      refine WO_step 5 [0, 1, 2, 3] [0, 6, 19, 20, 21, 30] ((0 ≤ (x81.getD (1 + i113.toNat) 0) ∧ (x81.getD (1 + i113.toNat) 0) < ((x1.length : Nat) : Int)) ∧ (True ∧ True)) ⟨[(0, .one (.e (.sl 0 0 x1.length))), (6, .one (.e (.p 1 0))), (19, .one (.e (.sl 2 1 (x81.length - 1)))), (20, I (((x81.length - 1) : Nat) : Int)), (21, I i113), (30, S ((x1.getD ((x81.getD (1 + i113.toNat) 0).toNat) dnod).name))], [.row .nod x1 false, .cells [.sp 1 63, .bsl 3 x147.length], .row .int x81 true, .row .u8 x147 true]⟩ (by kernel_rfl) ⟨hg149, trivial, trivial⟩ ?_
      refine bindO_e h (fun v153 hc152 h => ?_)
      obtain ⟨x150, i151⟩ := v153
      refine WO_call [.own 1, .own 3] Try.f33 rfl rfl rfl (by kernel_rfl) rfl rfl (by kernel_rfl) (strings_Builder_WriteString_ok x147 ((x1.getD ((x81.getD (1 + i113.toNat) 0).toNat) dnod).name) x150 i151 hc152) (And.intro (trivial) (And.intro (trivial) (trivial))) rfl ?_
      refine WO_sub [0, 1, 2, 4] [0, 6, 19, 20, 21] (st' := ⟨[(0, .one (.e (.sl 0 0 x1.length))), (6, .one (.e (.p 1 0))), (19, .one (.e (.sl 2 1 (x81.length - 1)))), (20, I (((x81.length - 1) : Nat) : Int)), (21, I i113)], [.row .nod x1 false, .cells [.sp 1 63, .bsl 3 x150.length], .row .int x81 true, .row .u8 x150 true]⟩) (by kernel_rfl) ?_
      refine WO_nil rfl ?_
      refine blockS_n ?_
      refine thenS_n ?_
      refine W_region ?_
      refine WO_step 2 [0, 1, 2, 3] [0, 6, 19, 20, 21] (True ∧ True) ⟨[(0, .one (.e (.sl 0 0 x1.length))), (6, .one (.e (.p 1 0))), (19, .one (.e (.sl 2 1 (x81.length - 1)))), (20, I (((x81.length - 1) : Nat) : Int)), (21, I (w64 (i113 + 1)))], [.row .nod x1 false, .cells [.sp 1 63, .bsl 3 x150.length], .row .int x81 true, .row .u8 x150 true]⟩ (by kernel_rfl) ⟨trivial, trivial⟩ ?_
      refine WO_nil rfl ?_
      refine thenS_n ?_
      exact ih _ _ h
    · refine W_sub [0, 1, 3] [6] (st' := ⟨[(6, .one (.e (.p 1 0)))], [.row .nod x1 false, .cells [.sp 1 63, .bsl 2 x112.length], .row .u8 x112 true]⟩) (by kernel_rfl) ?_
      refine W_exit ?_
      refine thenS_e ?_
      refine thenS_e ?_
      cases h
      exact And.intro rfl rfl

def impl_PathText (n : Nat) (x1 : List Nod) (i2 : Int) : Option (Str) :=
 bindO (impl_PathTo n x1 i2) fun x81 =>
 iteO (decide (((x81.length : Nat) : Int) = 0))
 (some [])
 (iteO (decide (((x81.length : Nat) : Int) = 1))
 (some [47])
 (guardO (0 ≤ (1 : Int) ∧ (1 : Int) ≤ ((x81.length : Nat) : Int)) <|
 bindO (impl_PathText_L1 x1 x81 n ([] : List Int) 0) fun x134 =>
 bindO (strings_Builder_String x134) fun (k155, s156) =>
 some s156))

theorem impl_PathText_ok (n : Nat) (x1 : List Nod) (i2 : Int) (s80 : Str) (h : impl_PathText n x1 i2 = some s80) : FOk EE 15 [.one (.e (.sl 0 0 x1.length)), I i2] [.row .nod x1 false] (S s80) [.row .nod x1 false] := by
  unfold impl_PathText at h
  refine FOk_of_W 34 1 Try.func15 rfl rfl (Nat.le_of_ble_eq_true rfl) rfl (fun w X θ => ?_)
  refine W_seq ?_
  refine W_region ?_
  refine WO_step 1 [0] [0, 1] True ⟨[(0, .one (.e (.sl 0 0 x1.length))), (1, I i2)], [.row .nod x1 false]⟩ (by kernel_rfl) trivial ?_
  refine WO_nil rfl ?_
  refine thenS_n ?_
  refine W_seq ?_
  refine W_region ?_
  refine WO_step 2 [0] [0, 9, 10] True ⟨[(0, .one (.e (.sl 0 0 x1.length))), (9, .one (.e (.sl 0 0 x1.length))), (10, I i2)], [.row .nod x1 false]⟩ (by kernel_rfl) trivial ?_
  refine bindO_e h (fun x81 hc82 h => ?_)
  refine WO_call [.ro 0] Try.f31 rfl rfl rfl (by kernel_rfl) rfl rfl (by kernel_rfl) (impl_PathTo_ok n x1 i2 x81 hc82) (And.intro (And.intro rfl rfl) (trivial)) rfl ?_
  refine WO_step 1 [0, 1] [0, 5] True ⟨[(0, .one (.e (.sl 0 0 x1.length))), (5, .one (.e (.sl 1 0 x81.length)))], [.row .nod x1 false, .row .int x81 true]⟩ (by kernel_rfl) trivial ?_
  refine WO_nil rfl ?_
  refine thenS_n ?_
  refine W_seq ?_
  refine W_seq ?_
  refine W_region ?_
  refine WO_step 3 [0, 1] [0, 5, 14] (True ∧ (True ∧ True)) ⟨[(0, .one (.e (.sl 0 0 x1.length))), (5, .one (.e (.sl 1 0 x81.length))), (14, B (decide (((x81.length : Nat) : Int) = 0)))], [.row .nod x1 false, .row .int x81 true]⟩ (by kernel_rfl) ⟨trivial, trivial, trivial⟩ ?_
  refine WO_nil rfl ?_
  refine thenS_n ?_
  refine iteO_e h (fun hb84 h => W_true rfl hb84 ?_) (fun hb84 h => W_false rfl hb84 ?_)
  · refine W_seq ?_
    refine W_region ?_
    refine WO_step 1 [0] [4] True ⟨[(4, S [])], [.row .nod x1 false]⟩ (by kernel_rfl) trivial ?_
    refine WO_nil rfl ?_
    refine thenS_n ?_
    refine W_ret ?_
    refine thenS_r ?_
    cases h
    exact ⟨[0], True, by kernel_rfl, trivial⟩
  · refine W_sub [0, 1] [0, 5] (st' := ⟨[(0, .one (.e (.sl 0 0 x1.length))), (5, .one (.e (.sl 1 0 x81.length)))], [.row .nod x1 false, .row .int x81 true]⟩) (by kernel_rfl) ?_
    refine W_skip ?_
    refine thenS_n ?_
    refine W_seq ?_
    refine W_seq ?_
    refine W_region ?_
    refine WO_step 3 [0, 1] [0, 5, 17] (True ∧ (True ∧ True)) ⟨[(0, .one (.e (.sl 0 0 x1.length))), (5, .one (.e (.sl 1 0 x81.length))), (17, B (decide (((x81.length : Nat) : Int) = 1)))], [.row .nod x1 false, .row .int x81 true]⟩ (by kernel_rfl) ⟨trivial, trivial, trivial⟩ ?_
    refine WO_nil rfl ?_
    refine thenS_n ?_
    refine iteO_e h (fun hb86 h => W_true rfl hb86 ?_) (fun hb86 h => W_false rfl hb86 ?_)
    · refine W_seq ?_
      refine W_region ?_
      refine WO_step 1 [0] [4] True ⟨[(4, S [47])], [.row .nod x1 false]⟩ (by kernel_rfl) trivial ?_
      refine WO_nil rfl ?_
      refine thenS_n ?_
      refine W_ret ?_
      refine thenS_r ?_
      cases h
      exact ⟨[0], True, by kernel_rfl, trivial⟩
    · refine W_sub [0, 1] [0, 5] (st' := ⟨[(0, .one (.e (.sl 0 0 x1.length))), (5, .one (.e (.sl 1 0 x81.length)))], [.row .nod x1 false, .row .int x81 true]⟩) (by kernel_rfl) ?_
      refine W_skip ?_
      refine thenS_n ?_
      refine W_seq ?_
      refine W_region ?_
      refine WO_step 1 [0, 1, 2] [0, 5, 6] (True ∧ True) ⟨[(0, .one (.e (.sl 0 0 x1.length))), (5, .one (.e (.sl 1 0 x81.length))), (6, .one (.e (.p 2 0)))], [.row .nod x1 false, .row .int x81 true, .cells [.sp 2 63, .nsl]]⟩ (by kernel_rfl) ⟨trivial, trivial⟩ ?_
      refine WO_bld 2 rfl ?_
      refine WO_nil rfl ?_
      refine thenS_n ?_
      refine W_seq ?_
      refine W_seq ?_
      refine W_region ?_
      refine guardO_e h (fun hg87 h => ?_)
      refine WO_step 4 [0, 2, 1, 3] [0, 6, 19, 20, 21] ((0 ≤ (1 : Int) ∧ (1 : Int) ≤ ((x81.length : Nat) : Int)) ∧ (True ∧ True)) ⟨[(0, .one (.e (.sl 0 0 x1.length))), (6, .one (.e (.p 1 0))), (19, .one (.e (.sl 2 1 (x81.length - 1)))), (20, I (((x81.length - 1) : Nat) : Int)), (21, I 0)], [.row .nod x1 false, .cells [.sp 1 63, .bsl 3 (([] : List Int).length)], .row .int x81 true, .row .u8 ([] : List Int) true]⟩ (by kernel_rfl) ⟨hg87, trivial, trivial⟩ ?_
      refine WO_nil rfl ?_
      refine thenS_n ?_
      refine W_block ?_
      refine W_loop ?_
      refine bindO_e h (fun x134 hx134 h => ?_)
      refine WL_cut (impl_PathText_L1_ok w X θ x1 x81 x134 n ([] : List Int) 0 hx134) ?_
      rintro _ _ ⟨rfl, rfl⟩
      refine blockS_y ?_
      refine thenS_n ?_
      refine W_seq ?_
      refine W_region ?_
      refine bindO_e h (fun v158 hc157 h => ?_)
      obtain ⟨k155, s156⟩ := v158
      refine WO_call [.own 1, .own 2] Try.f34 rfl rfl rfl (by kernel_rfl) rfl rfl (by kernel_rfl) (strings_Builder_String_ok x134 k155 s156 hc157) (And.intro (trivial) (And.intro (trivial) (trivial))) rfl ?_
      refine WO_step 1 [0] [4] True ⟨[(4, S s156)], [.row .nod x1 false]⟩ (by kernel_rfl) trivial ?_
      refine WO_nil rfl ?_
      refine thenS_n ?_
      refine W_ret ?_
      cases h
      exact ⟨[0], True, by kernel_rfl, trivial⟩

/- stringslite.HasPrefix -/
def stringslite_HasPrefix (s1 : Str) (s2 : Str) : Option (Bool) :=
 bindO (iteO (decide (((s2.length : Nat) : Int) ≤ ((s1.length : Nat) : Int)))
 (guardO (0 ≤ ((s2.length : Nat) : Int) ∧ ((s2.length : Nat) : Int) ≤ ((s1.length : Nat) : Int)) <|
 some (decide ((s1.take (((s2.length : Nat) : Int).toNat)) = s2)))
 (some false)) fun b12 =>
 some b12

theorem stringslite_HasPrefix_ok (s1 : Str) (s2 : Str) (b9 : Bool) (h : stringslite_HasPrefix s1 s2 = some b9) : FOk EE 60 [S s1, S s2] [] (B b9) [] := by
  unfold stringslite_HasPrefix at h
  refine FOk_of_W 18 0 Try.func60 rfl rfl (Nat.le_of_ble_eq_true rfl) rfl (fun w X θ => ?_)
  refine W_seq ?_
  refine W_region ?_
  refine WO_step 1 [] [0, 1] True ⟨[(0, S s1), (1, S s2)], []⟩ (by kernel_rfl) trivial ?_
  refine WO_nil rfl ?_
  refine thenS_n ?_
  refine W_seq ?_
  refine W_region ?_
  refine WO_step 6 [] [0, 1, 10] (True ∧ (True ∧ (True ∧ True))) ⟨[(0, S s1), (1, S s2), (10, B (decide (((s2.length : Nat) : Int) ≤ ((s1.length : Nat) : Int))))], []⟩ (by kernel_rfl) ⟨trivial, trivial, trivial, trivial⟩ ?_
  refine bindO_e h (fun b12 hv13 h => ?_)
  refine WO_thru ⟨[(4, B b12)], []⟩ ?_ ?_
  · refine iteO_e hv13 (fun hb14 hv13 => WO_known 10 true rfl hb14 ?_) (fun hb14 hv13 => WO_known 10 false rfl hb14 ?_)
    · refine guardO_e hv13 (fun hg15 hv13 => ?_)
      refine WO_step 8 [] [4] (True ∧ ((0 ≤ ((s2.length : Nat) : Int) ∧ ((s2.length : Nat) : Int) ≤ ((s1.length : Nat) : Int)) ∧ (True ∧ True))) ⟨[(4, B (decide ((s1.take (((s2.length : Nat) : Int).toNat)) = s2)))], []⟩ (by kernel_rfl) ⟨trivial, hg15, trivial, trivial⟩ ?_
      cases hv13
      exact WO_nil rfl ⟨rfl, rfl⟩
    · refine WO_step 8 [] [4] True ⟨[(4, B false)], []⟩ (by kernel_rfl) trivial ?_
      cases hv13
      exact WO_nil rfl ⟨rfl, rfl⟩
  · refine thenS_n ?_
    refine W_ret ?_
    cases h
    exact ⟨[], True, by kernel_rfl, trivial⟩

/- stringslite.CutPrefix -/
def stringslite_CutPrefix (s1 : Str) (s2 : Str) : Option (Str × Bool) :=
 bindO (stringslite_HasPrefix s1 s2) fun b10 =>
 iteO (!b10)
 (some (s1, false))
 (guardO (0 ≤ ((s2.length : Nat) : Int) ∧ ((s2.length : Nat) : Int) ≤ ((s1.length : Nat) : Int)) <|
 some ((s1.drop (((s2.length : Nat) : Int).toNat)), true))

theorem stringslite_CutPrefix_ok (s1 : Str) (s2 : Str) (s8 : Str) (b9 : Bool) (h : stringslite_CutPrefix s1 s2 = some (s8, b9)) : FOk EE 44 [S s1, S s2] [] (.tup [.e (cS s8), .e (cB b9)]) [] := by
  unfold stringslite_CutPrefix at h
  refine FOk_of_W 15 0 Try.func44 rfl rfl (Nat.le_of_ble_eq_true rfl) rfl (fun w X θ => ?_)
  refine W_seq ?_
  refine W_region ?_
  refine WO_step 2 [] [0, 1] True ⟨[(0, S s1), (1, S s2)], []⟩ (by kernel_rfl) trivial ?_
  refine WO_nil rfl ?_
  refine thenS_n ?_
  refine W_seq ?_
  refine W_seq ?_
  refine W_region ?_
  refine WO_step 2 [] [0, 1, 6, 7] True ⟨[(0, S s1), (1, S s2), (6, S s1), (7, S s2)], []⟩ (by kernel_rfl) trivial ?_
  refine bindO_e h (fun b10 hc11 h => ?_)
  refine WO_call [] Try.f60 rfl rfl rfl (by kernel_rfl) rfl rfl (by kernel_rfl) (stringslite_HasPrefix_ok s1 s2 b10 hc11) (trivial) rfl ?_
  refine WO_step 1 [] [0, 1, 9] True ⟨[(0, S s1), (1, S s2), (9, B (!b10))], []⟩ (by kernel_rfl) trivial ?_
  refine WO_nil rfl ?_
  refine thenS_n ?_
  refine iteO_e h (fun hb13 h => W_true rfl hb13 ?_) (fun hb13 h => W_false rfl hb13 ?_)
  · refine W_seq ?_
    refine W_region ?_
    refine WO_step 3 [] [4, 5] True ⟨[(4, S s1), (5, B false)], []⟩ (by kernel_rfl) trivial ?_
    refine WO_nil rfl ?_
    refine thenS_n ?_
    refine W_ret ?_
    refine thenS_r ?_
    cases h
    exact ⟨[], True, by kernel_rfl, trivial⟩
  · refine W_sub [] [0, 1] (st' := ⟨[(0, S s1), (1, S s2)], []⟩) (by kernel_rfl) ?_
    refine W_skip ?_
    refine thenS_n ?_
    refine W_seq ?_
    refine W_region ?_
    refine guardO_e h (fun hg14 h => ?_)
    refine WO_step 6 [] [4, 5] (True ∧ ((0 ≤ ((s2.length : Nat) : Int) ∧ ((s2.length : Nat) : Int) ≤ ((s1.length : Nat) : Int)) ∧ True)) ⟨[(4, S (s1.drop (((s2.length : Nat) : Int).toNat))), (5, B true)], []⟩ (by kernel_rfl) ⟨trivial, hg14, trivial⟩ ?_
    refine WO_nil rfl ?_
    refine thenS_n ?_
    refine W_ret ?_
    cases h
    exact ⟨[], True, by kernel_rfl, trivial⟩

/- strings.CutPrefix -/
def strings_CutPrefix (s1 : Str) (s2 : Str) : Option (Str × Bool) :=
 bindO (stringslite_CutPrefix s1 s2) fun (s9, b10) =>
 some (s9, b10)

theorem strings_CutPrefix_ok (s1 : Str) (s2 : Str) (s7 : Str) (b8 : Bool) (h : strings_CutPrefix s1 s2 = some (s7, b8)) : FOk EE 29 [S s1, S s2] [] (.tup [.e (cS s7), .e (cB b8)]) [] := by
  unfold strings_CutPrefix at h
  refine FOk_of_W 11 0 Try.func29 rfl rfl (Nat.le_of_ble_eq_true rfl) rfl (fun w X θ => ?_)
  refine W_seq ?_
  refine W_region ?_
  refine WO_step 2 [] [0, 1] True ⟨[(0, S s1), (1, S s2)], []⟩ (by kernel_rfl) trivial ?_
  refine WO_nil rfl ?_
  refine thenS_n ?_
  refine W_seq ?_
  refine W_region ?_
  refine WO_step 2 [] [6, 7] True ⟨[(6, S s1), (7, S s2)], []⟩ (by kernel_rfl) trivial ?_
  refine bindO_e h (fun v12 hc11 h => ?_)
  obtain ⟨s9, b10⟩ := v12
  refine WO_call [] Try.f44 rfl rfl rfl (by kernel_rfl) rfl rfl (by kernel_rfl) (stringslite_CutPrefix_ok s1 s2 s9 b10 hc11) (trivial) rfl ?_
  refine WO_step 4 [] [4, 5] True ⟨[(4, S s9), (5, B b10)], []⟩ (by kernel_rfl) trivial ?_
  refine WO_nil rfl ?_
  refine thenS_n ?_
  refine W_ret ?_
  cases h
  exact ⟨[], True, by kernel_rfl, trivial⟩

/- stringslite.IndexByte -/
def lays217R : Shelf.Ren := ⟨fun n => match n with | 217 => 64 | 266 => 69 | _ => 0, fun n => match n with | 3 => 3 | 5 => 5 | 9 => 9 | _ => 0, fun n => n⟩
set_option maxRecDepth 100000 in
theorem lays217 : Lays.n217 Try.prog lays217R := {
  mixed := by kernel_rfl
  f217 := by kernel_rfl
  f266 := by kernel_rfl
  t3 := Try.underlying3
  a3 := Try.isAgg3
  z3 := Try.sizeOf3
  v3 := Try.zeroValue3
  t5 := Try.underlying5
  a5 := Try.isAgg5
  z5 := Try.sizeOf5
  v5 := Try.zeroValue5
  t9 := Try.underlying9
  a9 := Try.isAgg9
  z9 := Try.sizeOf9
  v9 := Try.zeroValue9 }
def stringslite_IndexByte (s1 : Str) (i2 : Int) : Int := Lib.indexByte s1 (UInt8.ofNat i2.toNat)
theorem stringslite_IndexByte_ok (s1 : Str) (i2 : Int) : FOk EE 64 [S s1, U i2] [] (I (stringslite_IndexByte s1 i2)) [] :=
  FOk_pure (args := [.str s1, .int .u8 i2]) (r := .int .i64 (Lib.indexByte s1 (UInt8.ofNat i2.toNat))) (fun w => Any.stringslite_IndexByte lays217 ⟨⟨s1⟩⟩ i2 w)

/- stringslite.Index -/
def stringslite_Index (s1 : Str) (s2 : Str) : Option (Int) :=
 iteO ((decide (((s2.length : Nat) : Int) = 0)) || (decide (s2 = s1)))
 (some 0)
 (iteO (decide (((s2.length : Nat) : Int) = 1))
 (guardO (0 ≤ (0 : Int) ∧ (0 : Int) < ((s2.length : Nat) : Int)) <|
 some (stringslite_IndexByte s1 ((s2.getD ((0 : Int).toNat) 0).toNat : Int)))
 (iteO (decide (((s1.length : Nat) : Int) ≤ ((s2.length : Nat) : Int)))
 (some (-1))
 (none)))

theorem stringslite_Index_ok (s1 : Str) (s2 : Str) (i45 : Int) (h : stringslite_Index s1 s2 = some i45) : FOk EE 61 [S s1, S s2] [] (I i45) [] := by
  unfold stringslite_Index at h
  refine FOk_of_W 143 0 Try.func61 rfl rfl (Nat.le_of_ble_eq_true rfl) rfl (fun w X θ => ?_)
  refine W_seq ?_
  refine W_region ?_
  refine WO_step 1 [] [0, 1] True ⟨[(0, S s1), (1, S s2)], []⟩ (by kernel_rfl) trivial ?_
  refine WO_nil rfl ?_
  refine thenS_n ?_
  refine W_seq ?_
  refine W_region ?_
  refine WO_step 3 [] [0, 1, 5] (True ∧ True) ⟨[(0, S s1), (1, S s2), (5, I ((s2.length : Nat) : Int))], []⟩ (by kernel_rfl) ⟨trivial, trivial⟩ ?_
  refine WO_nil rfl ?_
  refine thenS_n ?_
  refine W_seq ?_
  refine W_block ?_
  refine W_seq ?_
  refine W_region ?_
  refine WO_step 3 [] [0, 1, 5, 19] (True ∧ True) ⟨[(0, S s1), (1, S s2), (5, I ((s2.length : Nat) : Int)), (19, B (decide (((s2.length : Nat) : Int) = 0)))], []⟩ (by kernel_rfl) ⟨trivial, trivial⟩ ?_
  refine WO_thru ⟨[(0, S s1), (1, S s2), (5, I ((s2.length : Nat) : Int)), (16, B ((decide (((s2.length : Nat) : Int) = 0)) || (decide (s2 = s1))))], []⟩ ?_ ?_
  · refine WO_if 19 rfl (fun hb69 => ?_) (fun hb69 => ?_)
    · refine WO_step 5 [] [0, 1, 5, 16] True ⟨[(0, S s1), (1, S s2), (5, I ((s2.length : Nat) : Int)), (16, B true)], []⟩ (by kernel_rfl) trivial ?_
      exact WO_nil rfl ⟨rfl, by first | rfl | (rw [hb69]; first | done | rfl)⟩
    · refine WO_step 5 [] [0, 1, 5, 16] (True ∧ True) ⟨[(0, S s1), (1, S s2), (5, I ((s2.length : Nat) : Int)), (16, B (decide (s2 = s1)))], []⟩ (by kernel_rfl) ⟨trivial, trivial⟩ ?_
      exact WO_nil rfl ⟨rfl, by first | rfl | (rw [hb69]; first | done | rfl)⟩
  · refine thenS_n ?_
    refine iteO_e h (fun hb79 h => W_true rfl hb79 ?_) (fun hb79 h => W_false rfl hb79 ?_)
    · refine W_seq ?_
      refine W_region ?_
      refine WO_step 1 [] [4] True ⟨[(4, I 0)], []⟩ (by kernel_rfl) trivial ?_
      refine WO_nil rfl ?_
      refine thenS_n ?_
      refine W_ret ?_
      refine blockS_r ?_
      refine thenS_r ?_
      cases h
      exact ⟨[], True, by kernel_rfl, trivial⟩
    · refine W_seq ?_
      refine W_region ?_
      refine WO_step 3 [] [0, 1, 5, 24] (True ∧ True) ⟨[(0, S s1), (1, S s2), (5, I ((s2.length : Nat) : Int)), (24, B (decide (((s2.length : Nat) : Int) = 1)))], []⟩ (by kernel_rfl) ⟨trivial, trivial⟩ ?_
      refine WO_nil rfl ?_
      refine thenS_n ?_
      refine iteO_e h (fun hb84 h => W_true rfl hb84 ?_) (fun hb84 h => W_false rfl hb84 ?_)
      · refine W_seq ?_
        refine W_region ?_
        refine guardO_e h (fun hg85 h => ?_)
        refine WO_step 3 [] [27, 29] ((0 ≤ (0 : Int) ∧ (0 : Int) < ((s2.length : Nat) : Int)) ∧ True) ⟨[(27, S s1), (29, U ((s2.getD ((0 : Int).toNat) 0).toNat : Int))], []⟩ (by kernel_rfl) ⟨hg85, trivial⟩ ?_
        refine WO_call [] Try.f64 rfl rfl rfl (by kernel_rfl) rfl rfl (by kernel_rfl) (stringslite_IndexByte_ok s1 ((s2.getD ((0 : Int).toNat) 0).toNat : Int)) (trivial) rfl ?_
        refine WO_step 1 [] [4] True ⟨[(4, I (stringslite_IndexByte s1 ((s2.getD ((0 : Int).toNat) 0).toNat : Int)))], []⟩ (by kernel_rfl) trivial ?_
        refine WO_nil rfl ?_
        refine thenS_n ?_
        refine W_ret ?_
        refine blockS_r ?_
        refine thenS_r ?_
        cases h
        exact ⟨[], True, by kernel_rfl, trivial⟩
      · refine W_seq ?_
        refine W_region ?_
        refine WO_step 5 [] [0, 1, 5, 31] (True ∧ (True ∧ True)) ⟨[(0, S s1), (1, S s2), (5, I ((s2.length : Nat) : Int)), (31, B (decide (((s1.length : Nat) : Int) ≤ ((s2.length : Nat) : Int))))], []⟩ (by kernel_rfl) ⟨trivial, trivial, trivial⟩ ?_
        refine WO_nil rfl ?_
        refine thenS_n ?_
        refine iteO_e h (fun hb87 h => W_true rfl hb87 ?_) (fun hb87 h => W_false rfl hb87 ?_)
        · refine W_seq ?_
          refine W_region ?_
          refine WO_step 1 [] [4] True ⟨[(4, I (-1))], []⟩ (by kernel_rfl) trivial ?_
          refine WO_nil rfl ?_
          refine thenS_n ?_
          refine W_ret ?_
          refine blockS_r ?_
          refine thenS_r ?_
          cases h
          exact ⟨[], True, by kernel_rfl, trivial⟩
        · exact none_e h

/- stringslite.Cut -/
def stringslite_Cut (s1 : Str) (s2 : Str) : Option (Str × Str × Bool) :=
 bindO (stringslite_Index s1 s2) fun i14 =>
 iteO (decide (0 ≤ i14))
 (guardO (0 ≤ i14 ∧ i14 ≤ ((s1.length : Nat) : Int)) <|
 guardO (0 ≤ (w64 (i14 + ((s2.length : Nat) : Int))) ∧ (w64 (i14 + ((s2.length : Nat) : Int))) ≤ ((s1.length : Nat) : Int)) <|
 some ((s1.take i14.toNat), (s1.drop ((w64 (i14 + ((s2.length : Nat) : Int))).toNat)), true))
 (some (s1, [], false))

theorem stringslite_Cut_ok (s1 : Str) (s2 : Str) (s11 : Str) (s12 : Str) (b13 : Bool) (h : stringslite_Cut s1 s2 = some (s11, s12, b13)) : FOk EE 45 [S s1, S s2] [] (.tup [.e (cS s11), .e (cS s12), .e (cB b13)]) [] := by
  unfold stringslite_Cut at h
  refine FOk_of_W 23 0 Try.func45 rfl rfl (Nat.le_of_ble_eq_true rfl) rfl (fun w X θ => ?_)
  refine W_seq ?_
  refine W_region ?_
  refine WO_step 3 [] [0, 1] True ⟨[(0, S s1), (1, S s2)], []⟩ (by kernel_rfl) trivial ?_
  refine WO_nil rfl ?_
  refine thenS_n ?_
  refine W_seq ?_
  refine W_seq ?_
  refine W_region ?_
  refine WO_step 2 [] [0, 1, 8, 9] True ⟨[(0, S s1), (1, S s2), (8, S s1), (9, S s2)], []⟩ (by kernel_rfl) trivial ?_
  refine bindO_e h (fun i14 hc15 h => ?_)
  refine WO_call [] Try.f61 rfl rfl rfl (by kernel_rfl) rfl rfl (by kernel_rfl) (stringslite_Index_ok s1 s2 i14 hc15) (trivial) rfl ?_
  refine WO_step 1 [] [0, 1, 7] True ⟨[(0, S s1), (1, S s2), (7, I i14)], []⟩ (by kernel_rfl) trivial ?_
  refine WO_nil rfl ?_
  refine thenS_n ?_
  refine W_seq ?_
  refine W_region ?_
  refine WO_step 2 [] [0, 1, 7, 12] (True ∧ True) ⟨[(0, S s1), (1, S s2), (7, I i14), (12, B (decide (0 ≤ i14)))], []⟩ (by kernel_rfl) ⟨trivial, trivial⟩ ?_
  refine WO_nil rfl ?_
  refine thenS_n ?_
  refine iteO_e h (fun hb19 h => W_true rfl hb19 ?_) (fun hb19 h => W_false rfl hb19 ?_)
  · refine W_seq ?_
    refine guardO_e h (fun hg20 h => ?_)
    refine guardO_e h (fun hg21 h => ?_)
    refine W_cut (Q' := fun (e : Exit) (s : St) => e = .normal ∧ s = ⟨[(4, S (s1.take i14.toNat)), (5, S (s1.drop ((w64 (i14 + ((s2.length : Nat) : Int))).toNat))), (6, B true)], []⟩) ?_ ?_
    · refine W_draw [] true (by kernel_rfl) (by kernel_rfl) ?_
      refine WD_takeK [0, 1, 2, 3, 4, 5, 6, 7, 8, 9, 10, 11] [4, 5, 6] [4, 5, 6] (φ := ((0 ≤ i14 ∧ i14 ≤ ((s1.length : Nat) : Int)) ∧ (0 ≤ i14 ∧ i14 ≤ ((s1.length : Nat) : Int)) ∧ (True ∧ True ∧ (True ∧ True ∧ ((0 ≤ (w64 (i14 + ((s2.length : Nat) : Int))) ∧ (w64 (i14 + ((s2.length : Nat) : Int))) ≤ ((s1.length : Nat) : Int)) ∧ (0 ≤ (w64 (i14 + ((s2.length : Nat) : Int))) ∧ (w64 (i14 + ((s2.length : Nat) : Int))) ≤ ((s1.length : Nat) : Int)) ∧ True))))) (ls' := #[true, true, true, true, true, true, true, true, true, true, true, true]) (Ts' := [(4, S (s1.take i14.toNat)), (5, S (s1.drop ((w64 (i14 + ((s2.length : Nat) : Int))).toNat))), (6, B true)]) (st' := ⟨[(4, S (s1.take i14.toNat)), (5, S (s1.drop ((w64 (i14 + ((s2.length : Nat) : Int))).toNat))), (6, B true)], []⟩) (n2 := 0) (by kernel_rfl) ⟨hg20, hg20, trivial, trivial, trivial, trivial, hg21, hg21, trivial⟩ rfl ?_
      exact WD_done [] [4, 5, 6] (st' := ⟨[(4, S (s1.take i14.toNat)), (5, S (s1.drop ((w64 (i14 + ((s2.length : Nat) : Int))).toNat))), (6, B true)], []⟩) (by kernel_rfl) (by kernel_rfl) (And.intro rfl rfl)
    · rintro _ _ ⟨rfl, rfl⟩
      refine thenS_n ?_
      refine W_ret ?_
      refine thenS_r ?_
      cases h
      exact ⟨[], True, by kernel_rfl, trivial⟩
  · refine W_sub [] [0] (st' := ⟨[(0, S s1)], []⟩) (by kernel_rfl) ?_
    refine W_skip ?_
    refine thenS_n ?_
    refine W_seq ?_
    refine W_region ?_
    refine WO_step 4 [] [4, 5, 6] True ⟨[(4, S s1), (5, S []), (6, B false)], []⟩ (by kernel_rfl) trivial ?_
    refine WO_nil rfl ?_
    refine thenS_n ?_
    refine W_ret ?_
    cases h
    exact ⟨[], True, by kernel_rfl, trivial⟩

/- strings.Cut -/
def strings_Cut (s1 : Str) (s2 : Str) : Option (Str × Str × Bool) :=
 bindO (stringslite_Cut s1 s2) fun (s11, s12, b13) =>
 some (s11, s12, b13)

theorem strings_Cut_ok (s1 : Str) (s2 : Str) (s8 : Str) (s9 : Str) (b10 : Bool) (h : strings_Cut s1 s2 = some (s8, s9, b10)) : FOk EE 30 [S s1, S s2] [] (.tup [.e (cS s8), .e (cS s9), .e (cB b10)]) [] := by
  unfold strings_Cut at h
  refine FOk_of_W 13 0 Try.func30 rfl rfl (Nat.le_of_ble_eq_true rfl) rfl (fun w X θ => ?_)
  refine W_seq ?_
  refine W_region ?_
  refine WO_step 3 [] [0, 1] True ⟨[(0, S s1), (1, S s2)], []⟩ (by kernel_rfl) trivial ?_
  refine WO_nil rfl ?_
  refine thenS_n ?_
  refine W_seq ?_
  refine W_region ?_
  refine WO_step 2 [] [7, 8] True ⟨[(7, S s1), (8, S s2)], []⟩ (by kernel_rfl) trivial ?_
  refine bindO_e h (fun v15 hc14 h => ?_)
  obtain ⟨s11, s12, b13⟩ := v15
  refine WO_call [] Try.f45 rfl rfl rfl (by kernel_rfl) rfl rfl (by kernel_rfl) (stringslite_Cut_ok s1 s2 s11 s12 b13 hc14) (trivial) rfl ?_
  refine WO_step 6 [] [4, 5, 6] True ⟨[(4, S s11), (5, S s12), (6, B b13)], []⟩ (by kernel_rfl) trivial ?_
  refine WO_nil rfl ?_
  refine thenS_n ?_
  refine W_ret ?_
  cases h
  exact ⟨[], True, by kernel_rfl, trivial⟩

/- impl.ResolvePath -/
def impl_ResolvePath_L1 (x1 : List Nod) : Nat → Str → Int → Bool → Option ((Unit) ⊕ (Int))
| 0, _, _, _ => none
| n + 1, s129, i130, b131 =>
 iteO b131
 (bindO (strings_Cut s129 [47]) fun (s168, s169, b170) =>
 bindO (impl_kidIn n x1 i130 s168) fun i172 =>
 iteO (decide (i172 < 0))
 (some (.inl ()))
 (impl_ResolvePath_L1 x1 n s169 i172 b170))
 (some (.inr i130))

theorem impl_ResolvePath_L1_ok (w : World) (X : Nat → Prop) (θ : List Loc) (x1 : List Nod) (v : (Unit) ⊕ (Int)) : ∀ (n : Nat) (s129 : Str) (i130 : Int) (b131 : Bool), impl_ResolvePath_L1 x1 n s129 i130 b131 = some v → WL EE ⟨w, X, θ, 36, 1⟩ (subC [1, 1, 1, 1, 1, 1, 0, 1, 4, 4] (bodyC Try.f14)) (fun (e : Exit) (s : St) => (match v with | (.inl _) => e = .ret ∧ s = ⟨[(4, I (-1))], [.row .nod x1 false]⟩ | (.inr i155) => e = .exit 0 ∧ s = ⟨[(7, I i155)], [.row .nod x1 false]⟩ : Prop)) ⟨[(0, .one (.e (.sl 0 0 x1.length))), (5, S s129), (7, I i130), (8, B b131)], [.row .nod x1 false]⟩ := by
  intro n
  induction n with
  | zero => intro _ _ _ h; exact none_e h
  | succ n ih =>
    intro s129 i130 b131 h
    rw [impl_ResolvePath_L1] at h
    refine WL_round ?_
    refine W_seq ?_
    refine W_seq ?_
    refine W_region ?_
    refine WO_step 1 [0] [0, 5, 7, 22] True ⟨[(0, .one (.e (.sl 0 0 x1.length))), (5, S s129), (7, I i130), (22, B b131)], [.row .nod x1 false]⟩ (by kernel_rfl) trivial ?_
    refine WO_nil rfl ?_
    refine thenS_n ?_
    refine iteO_e h (fun hb158 h => W_true rfl hb158 ?_) (fun hb158 h => W_false rfl hb158 ?_)
    · refine W_sub [0] [0, 5, 7] (st' := ⟨[(0, .one (.e (.sl 0 0 x1.length))), (5, S s129), (7, I i130)], [.row .nod x1 false]⟩) (by kernel_rfl) ?_
      refine W_skip ?_
      refine thenS_n ?_
      refine W_block ?_
      refine W_seq ?_
      refine W_region ?_
      refine WO_step 1 [0] [0, 5, 7] True ⟨[(0, .one (.e (.sl 0 0 x1.length))), (5, S s129), (7, I i130)], [.row .nod x1 false]⟩ (by kernel_rfl) trivial ?_
      refine WO_nil rfl ?_
      refine thenS_n ?_
      refine W_seq ?_
      refine W_region ?_
      refine WO_step 1 [0] [0, 7, 24] True ⟨[(0, .one (.e (.sl 0 0 x1.length))), (7, I i130), (24, S s129)], [.row .nod x1 false]⟩ (by kernel_rfl) trivial ?_
      refine bindO_e h (fun v176 hc171 h => ?_)
      obtain ⟨s168, s169, b170⟩ := v176
      refine WO_call [] Try.f30 rfl rfl rfl (by kernel_rfl) rfl rfl (by kernel_rfl) (strings_Cut_ok s129 [47] s168 s169 b170 hc171) (trivial) rfl ?_
      refine WO_step 7 [0] [0, 5, 7, 8, 9] True ⟨[(0, .one (.e (.sl 0 0 x1.length))), (5, S s169), (7, I i130), (8, B b170), (9, S s168)], [.row .nod x1 false]⟩ (by kernel_rfl) trivial ?_
      refine WO_nil rfl ?_
      refine thenS_n ?_
      refine W_seq ?_
      refine W_region ?_
      refine WO_step 3 [0] [0, 5, 8, 29, 30, 31] True ⟨[(0, .one (.e (.sl 0 0 x1.length))), (5, S s169), (8, B b170), (29, .one (.e (.sl 0 0 x1.length))), (30, I i130), (31, S s168)], [.row .nod x1 false]⟩ (by kernel_rfl) trivial ?_
      refine bindO_e h (fun i172 hc173 h => ?_)
      refine WO_call [.ro 0] Try.f28 rfl rfl rfl (by kernel_rfl) rfl rfl (by kernel_rfl) (impl_kidIn_ok n x1 i130 s168 i172 hc173) (And.intro (And.intro rfl rfl) (trivial)) rfl ?_
      refine WO_step 1 [0] [0, 5, 7, 8] True ⟨[(0, .one (.e (.sl 0 0 x1.length))), (5, S s169), (7, I i172), (8, B b170)], [.row .nod x1 false]⟩ (by kernel_rfl) trivial ?_
      refine WO_nil rfl ?_
      refine thenS_n ?_
      refine W_seq ?_
      refine W_region ?_
      refine WO_step 2 [0] [0, 5, 7, 8, 34] (True ∧ True) ⟨[(0, .one (.e (.sl 0 0 x1.length))), (5, S s169), (7, I i172), (8, B b170), (34, B (decide (i172 < 0)))], [.row .nod x1 false]⟩ (by kernel_rfl) ⟨trivial, trivial⟩ ?_
      refine WO_nil rfl ?_
      refine thenS_n ?_
      refine iteO_e h (fun hb175 h => W_true rfl hb175 ?_) (fun hb175 h => W_false rfl hb175 ?_)
      · refine W_seq ?_
        refine W_region ?_
        refine WO_step 1 [0] [4] True ⟨[(4, I (-1))], [.row .nod x1 false]⟩ (by kernel_rfl) trivial ?_
        refine WO_nil rfl ?_
        refine thenS_n ?_
        refine W_ret ?_
        refine blockS_r ?_
        refine thenS_r ?_
        cases h
        exact And.intro rfl rfl
      · refine W_sub [0] [0, 5, 7, 8] (st' := ⟨[(0, .one (.e (.sl 0 0 x1.length))), (5, S s169), (7, I i172), (8, B b170)], [.row .nod x1 false]⟩) (by kernel_rfl) ?_
        refine W_skip ?_
        refine blockS_n ?_
        refine thenS_n ?_
        exact ih _ _ _ h
    · refine W_sub [0] [7] (st' := ⟨[(7, I i130)], [.row .nod x1 false]⟩) (by kernel_rfl) ?_
      refine W_exit ?_
      refine thenS_e ?_
      refine thenS_e ?_
      cases h
      exact And.intro rfl rfl

def impl_ResolvePath (n : Nat) (x1 : List Nod) (s2 : Str) : Option (Int) :=
 bindO (impl_ValidTree n x1) fun b90 =>
 iteO (!b90)
 (some (-1))
 (bindO (strings_CutPrefix s2 [47]) fun (s94, b95) =>
 iteO (!b95)
 (some (-1))
 (iteO (decide (s94 = []))
 (some 0)
 (bindO (impl_ResolvePath_L1 x1 n s94 0 true) fun v177 =>
 match v177 with
 | (.inl _) => (some (-1))
 | (.inr i155) => (some i155)
)))

theorem impl_ResolvePath_ok (n : Nat) (x1 : List Nod) (s2 : Str) (i89 : Int) (h : impl_ResolvePath n x1 s2 = some i89) : FOk EE 14 [.one (.e (.sl 0 0 x1.length)), S s2] [.row .nod x1 false] (I i89) [.row .nod x1 false] := by
  unfold impl_ResolvePath at h
  refine FOk_of_W 36 1 Try.func14 rfl rfl (Nat.le_of_ble_eq_true rfl) rfl (fun w X θ => ?_)
  refine W_seq ?_
  refine W_region ?_
  refine WO_step 1 [0] [0, 1] True ⟨[(0, .one (.e (.sl 0 0 x1.length))), (1, S s2)], [.row .nod x1 false]⟩ (by kernel_rfl) trivial ?_
  refine WO_nil rfl ?_
  refine thenS_n ?_
  refine W_seq ?_
  refine W_seq ?_
  refine W_region ?_
  refine WO_step 1 [0] [0, 1, 10] True ⟨[(0, .one (.e (.sl 0 0 x1.length))), (1, S s2), (10, .one (.e (.sl 0 0 x1.length)))], [.row .nod x1 false]⟩ (by kernel_rfl) trivial ?_
  refine bindO_e h (fun b90 hc91 h => ?_)
  refine WO_call [.ro 0] Try.f13 rfl rfl rfl (by kernel_rfl) rfl rfl (by kernel_rfl) (impl_ValidTree_ok n x1 b90 hc91) (And.intro (And.intro rfl rfl) (trivial)) rfl ?_
  refine WO_step 1 [0] [0, 1, 12] True ⟨[(0, .one (.e (.sl 0 0 x1.length))), (1, S s2), (12, B (!b90))], [.row .nod x1 false]⟩ (by kernel_rfl) trivial ?_
  refine WO_nil rfl ?_
  refine thenS_n ?_
  refine iteO_e h (fun hb93 h => W_true rfl hb93 ?_) (fun hb93 h => W_false rfl hb93 ?_)
  · refine W_seq ?_
    refine W_region ?_
    refine WO_step 1 [0] [4] True ⟨[(4, I (-1))], [.row .nod x1 false]⟩ (by kernel_rfl) trivial ?_
    refine WO_nil rfl ?_
    refine thenS_n ?_
    refine W_ret ?_
    refine thenS_r ?_
    cases h
    exact ⟨[0], True, by kernel_rfl, trivial⟩
  · refine W_sub [0] [0, 1] (st' := ⟨[(0, .one (.e (.sl 0 0 x1.length))), (1, S s2)], [.row .nod x1 false]⟩) (by kernel_rfl) ?_
    refine W_skip ?_
    refine thenS_n ?_
    refine W_seq ?_
    refine W_region ?_
    refine WO_step 1 [0] [0, 14] True ⟨[(0, .one (.e (.sl 0 0 x1.length))), (14, S s2)], [.row .nod x1 false]⟩ (by kernel_rfl) trivial ?_
    refine bindO_e h (fun v178 hc96 h => ?_)
    obtain ⟨s94, b95⟩ := v178
    refine WO_call [] Try.f29 rfl rfl rfl (by kernel_rfl) rfl rfl (by kernel_rfl) (strings_CutPrefix_ok s2 [47] s94 b95 hc96) (trivial) rfl ?_
    refine WO_step 5 [0] [0, 5, 6] True ⟨[(0, .one (.e (.sl 0 0 x1.length))), (5, S s94), (6, B b95)], [.row .nod x1 false]⟩ (by kernel_rfl) trivial ?_
    refine WO_nil rfl ?_
    refine thenS_n ?_
    refine W_seq ?_
    refine W_seq ?_
    refine W_region ?_
    refine WO_step 2 [0] [0, 5, 19] True ⟨[(0, .one (.e (.sl 0 0 x1.length))), (5, S s94), (19, B (!b95))], [.row .nod x1 false]⟩ (by kernel_rfl) trivial ?_
    refine WO_nil rfl ?_
    refine thenS_n ?_
    refine iteO_e h (fun hb98 h => W_true rfl hb98 ?_) (fun hb98 h => W_false rfl hb98 ?_)
    · refine W_seq ?_
      refine W_region ?_
      refine WO_step 1 [0] [4] True ⟨[(4, I (-1))], [.row .nod x1 false]⟩ (by kernel_rfl) trivial ?_
      refine WO_nil rfl ?_
      refine thenS_n ?_
      refine W_ret ?_
      refine thenS_r ?_
      cases h
      exact ⟨[0], True, by kernel_rfl, trivial⟩
    · refine W_sub [0] [0, 5] (st' := ⟨[(0, .one (.e (.sl 0 0 x1.length))), (5, S s94)], [.row .nod x1 false]⟩) (by kernel_rfl) ?_
      refine W_skip ?_
      refine thenS_n ?_
      refine W_seq ?_
      refine W_seq ?_
      refine W_region ?_
      refine WO_step 2 [0] [0, 5, 21] (True ∧ True) ⟨[(0, .one (.e (.sl 0 0 x1.length))), (5, S s94), (21, B (decide (s94 = [])))], [.row .nod x1 false]⟩ (by kernel_rfl) ⟨trivial, trivial⟩ ?_
      refine WO_nil rfl ?_
      refine thenS_n ?_
      refine iteO_e h (fun hb100 h => W_true rfl hb100 ?_) (fun hb100 h => W_false rfl hb100 ?_)
      · refine W_seq ?_
        refine W_region ?_
        refine WO_step 1 [0] [4] True ⟨[(4, I 0)], [.row .nod x1 false]⟩ (by kernel_rfl) trivial ?_
        refine WO_nil rfl ?_
        refine thenS_n ?_
        refine W_ret ?_
        refine thenS_r ?_
        cases h
        exact ⟨[0], True, by kernel_rfl, trivial⟩
      · refine W_sub [0] [0, 5] (st' := ⟨[(0, .one (.e (.sl 0 0 x1.length))), (5, S s94)], [.row .nod x1 false]⟩) (by kernel_rfl) ?_
        refine W_skip ?_
        refine thenS_n ?_
        refine W_seq ?_
        refine W_region ?_
        refine WO_step 1 [0] [0, 5, 7] True ⟨[(0, .one (.e (.sl 0 0 x1.length))), (5, S s94), (7, I 0)], [.row .nod x1 false]⟩ (by kernel_rfl) trivial ?_
        refine WO_nil rfl ?_
        refine thenS_n ?_
        refine W_seq ?_
        refine W_seq ?_
        refine W_region ?_
        refine WO_step 1 [0] [0, 5, 7, 8] True ⟨[(0, .one (.e (.sl 0 0 x1.length))), (5, S s94), (7, I 0), (8, B true)], [.row .nod x1 false]⟩ (by kernel_rfl) trivial ?_
        refine WO_nil rfl ?_
        refine thenS_n ?_
        refine W_block ?_
        refine W_loop ?_
        refine bindO_e h (fun v177 hv177 h => ?_)
        refine WL_cut (impl_ResolvePath_L1_ok w X θ x1 v177 n s94 0 true hv177) ?_
        rcases v177 with _ | i155
        · rintro _ _ ⟨rfl, rfl⟩
          refine blockS_r ?_
          refine thenS_r ?_
          cases h
          exact ⟨[0], True, by kernel_rfl, trivial⟩
        · rintro _ _ ⟨rfl, rfl⟩
          refine blockS_y ?_
          refine thenS_n ?_
          refine W_seq ?_
          refine W_region ?_
          refine WO_step 2 [0] [4] True ⟨[(4, I i155)], [.row .nod x1 false]⟩ (by kernel_rfl) trivial ?_
          refine WO_nil rfl ?_
          refine thenS_n ?_
          refine W_ret ?_
          cases h
          exact ⟨[0], True, by kernel_rfl, trivial⟩

end Go.Proofs.Ytiboohplkihhnaa

import Derived.Test.YtghdgncfcfdlfaaTLt
import Derived.Test.YtghdgncfcfdlfaaTLxb
import Derived.Shelf.Strings.Builder1
import Derived.Shelf.Strings.Search1
import Derived.Shelf.Small.Strs
import Derived.Test.YtghdgncfcfdlfaaProg
namespace Go.Proofs.Ytghdgncfcfdlfaa
open Go Go.Shelf Go.Proofs
set_option linter.unusedVariables false
noncomputable def EE : Env := ⟨Try.prog, fun _ => none, fun t => match t with | 3 => some .int | 5 => some .u8 | 9 => some .str | 42 => some .nod | 47 => some .nod | 49 => some .edt | _ => none⟩
/- laws.szNode -/
def laws_szNode (x1 : Nod) (i2 : Int) : Option (Int) :=
 iteO (decide ((w64 (i2 - ((x1.name.length : Nat) : Int))) < 0))
 (some (-1))
 (some (w64 (i2 - ((x1.name.length : Nat) : Int))))

theorem laws_szNode_ok (x1 : Nod) (i2 : Int) (i5 : Int) (h : laws_szNode x1 i2 = some i5) : FOk EE 20 [AGG [cI x1.parent, cS x1.name, cI x1.value], I i2] [] (I i5) [] := by
  unfold laws_szNode at h
  refine FOk_of_W 13 0 Try.func20 rfl rfl (Nat.le_of_ble_eq_true rfl) rfl (fun w X θ => ?_)
  refine W_seq ?_
  refine W_region ?_
  refine WO_step 2 [0] [1, 2] (True ∧ True) ⟨[(1, I i2), (2, .one (.e (.p 0 0)))], [.cells [cI x1.parent, cS x1.name, cI x1.value]]⟩ (by kernel_rfl) ⟨trivial, trivial⟩ ?_
  refine WO_nil rfl ?_
  refine thenS_n ?_
  refine W_seq ?_
  refine W_region ?_
  refine WO_step 6 [] [1] (True ∧ (True ∧ (True ∧ True))) ⟨[(1, I (w64 (i2 - ((x1.name.length : Nat) : Int))))], []⟩ (by kernel_rfl) ⟨trivial, trivial, trivial, trivial⟩ ?_
  refine WO_nil rfl ?_
  refine thenS_n ?_
  refine W_seq ?_
  refine W_seq ?_
  refine W_region ?_
  refine WO_step 2 [] [1, 11] (True ∧ True) ⟨[(1, I (w64 (i2 - ((x1.name.length : Nat) : Int)))), (11, B (decide ((w64 (i2 - ((x1.name.length : Nat) : Int))) < 0)))], []⟩ (by kernel_rfl) ⟨trivial, trivial⟩ ?_
  refine WO_nil rfl ?_
  refine thenS_n ?_
  refine iteO_e h (fun hb7 h => W_true rfl hb7 ?_) (fun hb7 h => W_false rfl hb7 ?_)
  · refine W_seq ?_
    refine W_region ?_
    refine WO_step 1 [] [4] True ⟨[(4, I (-1))], []⟩ (by kernel_rfl) trivial ?_
    refine WO_nil rfl ?_
    refine thenS_n ?_
    refine W_ret ?_
    refine thenS_r ?_
    cases h
    exact ⟨[], True, by kernel_rfl, trivial⟩
  · refine W_sub [] [1] (st' := ⟨[(1, I (w64 (i2 - ((x1.name.length : Nat) : Int))))], []⟩) (by kernel_rfl) ?_
    refine W_skip ?_
    refine thenS_n ?_
    refine W_seq ?_
    refine W_region ?_
    refine WO_step 2 [] [4] True ⟨[(4, I (w64 (i2 - ((x1.name.length : Nat) : Int))))], []⟩ (by kernel_rfl) trivial ?_
    refine WO_nil rfl ?_
    refine thenS_n ?_
    refine W_ret ?_
    cases h
    exact ⟨[], True, by kernel_rfl, trivial⟩

/- laws.szNodeS -/
def laws_szNodeS_L1 (x1 : List Nod) : Nat → Int → Int → Option ((Unit) ⊕ (Int))
| 0, _, _ => none
| n + 1, i74, i75 =>
 iteO (decide (i75 < ((x1.length : Nat) : Int)))
 (guardO (0 ≤ i75 ∧ i75 < ((x1.length : Nat) : Int)) <|
 bindO (laws_szNode (x1.getD i75.toNat dnod) i74) fun i100 =>
 iteO (decide (i100 < 0))
 (some (.inl ()))
 (laws_szNodeS_L1 x1 n i100 (w64 (i75 + 1))))
 (some (.inr i74))

theorem laws_szNodeS_L1_ok (w : World) (X : Nat → Prop) (θ : List Loc) (x1 : List Nod) (v : (Unit) ⊕ (Int)) : ∀ (n : Nat) (i74 : Int) (i75 : Int), laws_szNodeS_L1 x1 n i74 i75 = some v → WL EE ⟨w, X, θ, 27, 1⟩ (subC [1, 1, 1, 0, 1, 4, 4] (bodyC Try.f6)) (fun (e : Exit) (s : St) => (match v with | (.inl _) => e = .ret ∧ s = ⟨[(4, I (-1))], [.row .nod x1 false]⟩ | (.inr i90) => e = .exit 0 ∧ s = ⟨[(1, I i90)], [.row .nod x1 false]⟩ : Prop)) ⟨[(0, .one (.e (.sl 0 0 x1.length))), (1, I i74), (5, I i75)], [.row .nod x1 false]⟩ := by
  intro n
  induction n with
  | zero => intro _ _ h; exact none_e h
  | succ n ih =>
    intro i74 i75 h
    rw [laws_szNodeS_L1] at h
    refine WL_round ?_
    refine W_seq ?_
    refine W_seq ?_
    refine W_region ?_
    refine WO_step 4 [0] [0, 1, 5, 15] (True ∧ (True ∧ True)) ⟨[(0, .one (.e (.sl 0 0 x1.length))), (1, I i74), (5, I i75), (15, B (decide (i75 < ((x1.length : Nat) : Int))))], [.row .nod x1 false]⟩ (by kernel_rfl) ⟨trivial, trivial, trivial⟩ ?_
    refine WO_nil rfl ?_
    refine thenS_n ?_
    refine iteO_e h (fun hb93 h => W_true rfl hb93 ?_) (fun hb93 h => W_false rfl hb93 ?_)
    · refine W_sub [0] [0, 1, 5] (st' := ⟨[(0, .one (.e (.sl 0 0 x1.length))), (1, I i74), (5, I i75)], [.row .nod x1 false]⟩) (by kernel_rfl) ?_
      refine W_skip ?_
      refine thenS_n ?_
      refine W_seq ?_
      refine W_block ?_
      refine W_seq ?_
      refine W_region ?_
      refine guardO_e h (fun hg99 h => ?_)
      refine WO_step 5 [0] [0, 5, 21, 22] ((0 ≤ i75 ∧ i75 < ((x1.length : Nat) : Int)) ∧ (True ∧ True)) ⟨[(0, .one (.e (.sl 0 0 x1.length))), (5, I i75), (21, AGG [cI ((x1.getD i75.toNat dnod).parent), cS ((x1.getD i75.toNat dnod).name), cI ((x1.getD i75.toNat dnod).value)]), (22, I i74)], [.row .nod x1 false]⟩ (by kernel_rfl) ⟨hg99, trivial, trivial⟩ ?_
      refine bindO_e h (fun i100 hc101 h => ?_)
      refine WO_call [] Try.f20 rfl rfl rfl (by kernel_rfl) Try.func20 rfl (by kernel_rfl) (laws_szNode_ok (x1.getD i75.toNat dnod) i74 i100 hc101) (trivial) rfl ?_
      refine WO_step 1 [0] [0, 1, 5] True ⟨[(0, .one (.e (.sl 0 0 x1.length))), (1, I i100), (5, I i75)], [.row .nod x1 false]⟩ (by kernel_rfl) trivial ?_
      refine WO_nil rfl ?_
      refine thenS_n ?_
      refine W_seq ?_
      refine W_region ?_
      refine WO_step 2 [0] [0, 1, 5, 25] (True ∧ True) ⟨[(0, .one (.e (.sl 0 0 x1.length))), (1, I i100), (5, I i75), (25, B (decide (i100 < 0)))], [.row .nod x1 false]⟩ (by kernel_rfl) ⟨trivial, trivial⟩ ?_
      refine WO_nil rfl ?_
      refine thenS_n ?_
      refine iteO_e h (fun hb103 h => W_true rfl hb103 ?_) (fun hb103 h => W_false rfl hb103 ?_)
      · refine W_seq ?_
        refine W_region ?_
        refine WO_step 1 [0] [4] True ⟨[(4, I (-1))], [.row .nod x1 false]⟩ (by kernel_rfl) trivial ?_
        refine WO_nil rfl ?_
        refine thenS_n ?_
        refine W_ret ?_
        refine blockS_r ?_
        refine thenS_r ?_
        refine thenS_r ?_
        cases h
        exact And.intro rfl rfl
      · refine W_sub [0] [0, 1, 5] (st' := ⟨[(0, .one (.e (.sl 0 0 x1.length))), (1, I i100), (5, I i75)], [.row .nod x1 false]⟩) (by kernel_rfl) ?_
        refine W_skip ?_
        refine blockS_n ?_
        refine thenS_n ?_
        refine W_region ?_
        refine WO_step 3 [0] [0, 1, 5] (True ∧ True) ⟨[(0, .one (.e (.sl 0 0 x1.length))), (1, I i100), (5, I (w64 (i75 + 1)))], [.row .nod x1 false]⟩ (by kernel_rfl) ⟨trivial, trivial⟩ ?_
        refine WO_nil rfl ?_
        refine thenS_n ?_
        exact ih _ _ h
    · refine W_sub [0] [1] (st' := ⟨[(1, I i74)], [.row .nod x1 false]⟩) (by kernel_rfl) ?_
      refine W_exit ?_
      refine thenS_e ?_
      refine thenS_e ?_
      cases h
      exact And.intro rfl rfl

def laws_szNodeS (n : Nat) (x1 : List Nod) (i2 : Int) : Option (Int) :=
 iteO (decide ((w64 (i2 - ((x1.length : Nat) : Int))) < 0))
 (some (-1))
 (bindO (laws_szNodeS_L1 x1 n (w64 (i2 - ((x1.length : Nat) : Int))) 0) fun v104 =>
 match v104 with
 | (.inl _) => (some (-1))
 | (.inr i90) => (some i90)
)

theorem laws_szNodeS_ok (n : Nat) (x1 : List Nod) (i2 : Int) (i53 : Int) (h : laws_szNodeS n x1 i2 = some i53) : FOk EE 6 [.one (.e (.sl 0 0 x1.length)), I i2] [.row .nod x1 false] (I i53) [.row .nod x1 false] := by
  unfold laws_szNodeS at h
  refine FOk_of_W 27 1 Try.func6 rfl rfl (Nat.le_of_ble_eq_true rfl) rfl (fun w X θ => ?_)
  refine W_seq ?_
  refine W_region ?_
  refine WO_step 1 [0] [0, 1] True ⟨[(0, .one (.e (.sl 0 0 x1.length))), (1, I i2)], [.row .nod x1 false]⟩ (by kernel_rfl) trivial ?_
  refine WO_nil rfl ?_
  refine thenS_n ?_
  refine W_seq ?_
  refine W_region ?_
  refine WO_step 5 [0] [0, 1] (True ∧ (True ∧ True)) ⟨[(0, .one (.e (.sl 0 0 x1.length))), (1, I (w64 (i2 - ((x1.length : Nat) : Int))))], [.row .nod x1 false]⟩ (by kernel_rfl) ⟨trivial, trivial, trivial⟩ ?_
  refine WO_nil rfl ?_
  refine thenS_n ?_
  refine W_seq ?_
  refine W_seq ?_
  refine W_region ?_
  refine WO_step 2 [0] [0, 1, 11] (True ∧ True) ⟨[(0, .one (.e (.sl 0 0 x1.length))), (1, I (w64 (i2 - ((x1.length : Nat) : Int)))), (11, B (decide ((w64 (i2 - ((x1.length : Nat) : Int))) < 0)))], [.row .nod x1 false]⟩ (by kernel_rfl) ⟨trivial, trivial⟩ ?_
  refine WO_nil rfl ?_
  refine thenS_n ?_
  refine iteO_e h (fun hb55 h => W_true rfl hb55 ?_) (fun hb55 h => W_false rfl hb55 ?_)
  · refine W_seq ?_
    refine W_region ?_
    refine WO_step 1 [0] [4] True ⟨[(4, I (-1))], [.row .nod x1 false]⟩ (by kernel_rfl) trivial ?_
    refine WO_nil rfl ?_
    refine thenS_n ?_
    refine W_ret ?_
    refine thenS_r ?_
    cases h
    exact ⟨[0], True, by kernel_rfl, trivial⟩
  · refine W_sub [0] [0, 1] (st' := ⟨[(0, .one (.e (.sl 0 0 x1.length))), (1, I (w64 (i2 - ((x1.length : Nat) : Int))))], [.row .nod x1 false]⟩) (by kernel_rfl) ?_
    refine W_skip ?_
    refine thenS_n ?_
    refine W_seq ?_
    refine W_seq ?_
    refine W_region ?_
    refine WO_step 1 [0] [0, 1, 5] True ⟨[(0, .one (.e (.sl 0 0 x1.length))), (1, I (w64 (i2 - ((x1.length : Nat) : Int)))), (5, I 0)], [.row .nod x1 false]⟩ (by kernel_rfl) trivial ?_
    refine WO_nil rfl ?_
    refine thenS_n ?_
    refine W_block ?_
    refine W_loop ?_
    refine bindO_e h (fun v104 hv104 h => ?_)
    refine WL_cut (laws_szNodeS_L1_ok w X θ x1 v104 n (w64 (i2 - ((x1.length : Nat) : Int))) 0 hv104) ?_
    rcases v104 with _ | i90
    · rintro _ _ ⟨rfl, rfl⟩
      refine blockS_r ?_
      refine thenS_r ?_
      cases h
      exact ⟨[0], True, by kernel_rfl, trivial⟩
    · rintro _ _ ⟨rfl, rfl⟩
      refine blockS_y ?_
      refine thenS_n ?_
      refine W_seq ?_
      refine W_region ?_
      refine WO_step 2 [0] [4] True ⟨[(4, I i90)], [.row .nod x1 false]⟩ (by kernel_rfl) trivial ?_
      refine WO_nil rfl ?_
      refine thenS_n ?_
      refine W_ret ?_
      cases h
      exact ⟨[0], True, by kernel_rfl, trivial⟩

/- laws.toNode -/
def laws_toNode (x1 : Nod) : Option (Int × Str × Int) :=
 some (x1.parent, x1.name, x1.value)

theorem laws_toNode_ok (x1 : Nod) (i2 : Int) (s3 : Str) (i4 : Int) (h : laws_toNode x1 = some (i2, s3, i4)) : FOk EE 26 [AGG [cI x1.parent, cS x1.name, cI x1.value]] [] (AGG [cI i2, cS s3, cI i4]) [] := by
  unfold laws_toNode at h
  refine FOk_of_W 14 0 Try.func26 rfl rfl (Nat.le_of_ble_eq_true rfl) rfl (fun w X θ => ?_)
  refine W_seq ?_
  refine W_region ?_
  refine WO_step 2 [0, 1] [1, 2] (True ∧ (True ∧ True)) ⟨[(1, .one (.e (.p 0 0))), (2, .one (.e (.p 1 0)))], [.cells [cI x1.parent, cS x1.name, cI x1.value], .cells [cI 0, cS [], cI 0]]⟩ (by kernel_rfl) ⟨trivial, trivial, trivial⟩ ?_
  refine WO_nil rfl ?_
  refine thenS_n ?_
  refine W_seq ?_
  refine W_region ?_
  refine WO_step 1 [0, 1, 2] [1, 2, 3] (True ∧ True) ⟨[(1, .one (.e (.p 0 0))), (2, .one (.e (.p 1 0))), (3, .one (.e (.p 2 0)))], [.cells [cI x1.parent, cS x1.name, cI x1.value], .cells [cI 0, cS [], cI 0], .cells [cI 0, cS [], cI 0]]⟩ (by kernel_rfl) ⟨trivial, trivial⟩ ?_
  refine WO_nil rfl ?_
  refine thenS_n ?_
  refine W_seq ?_
  refine W_region ?_
  refine WO_step 4 [0, 1, 2] [1, 2, 3] (True ∧ (True ∧ True)) ⟨[(1, .one (.e (.p 0 0))), (2, .one (.e (.p 1 0))), (3, .one (.e (.p 2 0)))], [.cells [cI x1.parent, cS x1.name, cI x1.value], .cells [cI 0, cS [], cI 0], .cells [cI x1.parent, cS [], cI 0]]⟩ (by kernel_rfl) ⟨trivial, trivial, trivial⟩ ?_
  refine WO_nil rfl ?_
  refine thenS_n ?_
  refine W_seq ?_
  refine W_region ?_
  refine WO_step 4 [0, 1, 2] [1, 2, 3] (True ∧ (True ∧ True)) ⟨[(1, .one (.e (.p 0 0))), (2, .one (.e (.p 1 0))), (3, .one (.e (.p 2 0)))], [.cells [cI x1.parent, cS x1.name, cI x1.value], .cells [cI 0, cS [], cI 0], .cells [cI x1.parent, cS x1.name, cI 0]]⟩ (by kernel_rfl) ⟨trivial, trivial, trivial⟩ ?_
  refine WO_nil rfl ?_
  refine thenS_n ?_
  refine W_seq ?_
  refine W_region ?_
  refine WO_step 4 [1, 2] [2, 3] (True ∧ (True ∧ True)) ⟨[(2, .one (.e (.p 0 0))), (3, .one (.e (.p 1 0)))], [.cells [cI 0, cS [], cI 0], .cells [cI x1.parent, cS x1.name, cI x1.value]]⟩ (by kernel_rfl) ⟨trivial, trivial, trivial⟩ ?_
  refine WO_nil rfl ?_
  refine thenS_n ?_
  refine W_seq ?_
  refine W_region ?_
  refine WO_step 2 [0] [2] (True ∧ (True ∧ True)) ⟨[(2, .one (.e (.p 0 0)))], [.cells [cI x1.parent, cS x1.name, cI x1.value]]⟩ (by kernel_rfl) ⟨trivial, trivial, trivial⟩ ?_
  refine WO_nil rfl ?_
  refine thenS_n ?_
  refine W_ret ?_
  cases h
  exact ⟨[], True, by kernel_rfl, trivial⟩

/- laws.toNodeS -/
def laws_toNodeS_L1 (x1 : List Nod) : Nat → (List Nod) → Int → Option ((List Nod))
| 0, _, _ => none
| n + 1, x87, i88 =>
 iteO (decide (i88 < ((x1.length : Nat) : Int)))
 (guardO (0 ≤ i88 ∧ i88 < ((x1.length : Nat) : Int)) <|
 bindO (laws_toNode (x1.getD i88.toNat dnod)) fun (i119, s120, i121) =>
 guardO (0 ≤ i88 ∧ i88 < ((x87.length : Nat) : Int)) <|
 laws_toNodeS_L1 x1 n (x87.set i88.toNat (⟨i119, s120, i121⟩ : Nod)) (w64 (i88 + 1)))
 (some x87)

theorem laws_toNodeS_L1_ok (w : World) (X : Nat → Prop) (θ : List Loc) (x1 : List Nod) (x107 : (List Nod)) : ∀ (n : Nat) (x87 : List Nod) (i88 : Int), laws_toNodeS_L1 x1 n x87 i88 = some x107 → WL EE ⟨w, X, θ, 23, 1⟩ (subC [1, 1, 0, 1, 4, 4] (bodyC Try.f8)) (fun (e : Exit) (s : St) => e = .exit 0 ∧ s = ⟨[(3, .one (.e (.sl 1 0 x107.length)))], [.row .nod x1 false, .row .nod x107 true]⟩) ⟨[(0, .one (.e (.sl 0 0 x1.length))), (3, .one (.e (.sl 1 0 x87.length))), (4, I i88)], [.row .nod x1 false, .row .nod x87 true]⟩ := by
  intro n
  induction n with
  | zero => intro _ _ h; exact none_e h
  | succ n ih =>
    intro x87 i88 h
    rw [laws_toNodeS_L1] at h
    refine WL_round ?_
    refine W_seq ?_
    refine W_seq ?_
    refine W_region ?_
    refine WO_step 4 [0, 1] [0, 3, 4, 11] (True ∧ (True ∧ True)) ⟨[(0, .one (.e (.sl 0 0 x1.length))), (3, .one (.e (.sl 1 0 x87.length))), (4, I i88), (11, B (decide (i88 < ((x1.length : Nat) : Int))))], [.row .nod x1 false, .row .nod x87 true]⟩ (by kernel_rfl) ⟨trivial, trivial, trivial⟩ ?_
    refine WO_nil rfl ?_
    refine thenS_n ?_
    refine iteO_e h (fun hb110 h => W_true rfl hb110 ?_) (fun hb110 h => W_false rfl hb110 ?_)
    · refine W_sub [0, 1] [0, 3, 4] (st' := ⟨[(0, .one (.e (.sl 0 0 x1.length))), (3, .one (.e (.sl 1 0 x87.length))), (4, I i88)], [.row .nod x1 false, .row .nod x87 true]⟩) (by kernel_rfl) ?_
      refine W_skip ?_
      refine thenS_n ?_
      refine W_seq ?_
      refine W_block ?_
      refine W_region ?_
      refine guardO_e h (fun hg118 h => ?_)
      refine WO_step 6 [0, 1] [0, 3, 4, 14, 15, 19] ((0 ≤ i88 ∧ i88 < ((x1.length : Nat) : Int)) ∧ (True ∧ True)) ⟨[(0, .one (.e (.sl 0 0 x1.length))), (3, .one (.e (.sl 1 0 x87.length))), (4, I i88), (14, .one (.e (.sl 1 0 x87.length))), (15, I i88), (19, AGG [cI ((x1.getD i88.toNat dnod).parent), cS ((x1.getD i88.toNat dnod).name), cI ((x1.getD i88.toNat dnod).value)])], [.row .nod x1 false, .row .nod x87 true]⟩ (by kernel_rfl) ⟨hg118, trivial, trivial⟩ ?_
      refine bindO_e h (fun v124 hc122 h => ?_)
      obtain ⟨i119, s120, i121⟩ := v124
      refine WO_call [] Try.f26 rfl rfl rfl (by kernel_rfl) Try.func26 rfl (by kernel_rfl) (laws_toNode_ok (x1.getD i88.toNat dnod) i119 s120 i121 hc122) (trivial) rfl ?_
      refine guardO_e h (fun hg123 h => ?_)
      refine WO_step 2 [0, 1] [0, 3, 4] ((0 ≤ i88 ∧ i88 < ((x87.length : Nat) : Int)) ∧ (True ∧ True)) ⟨[(0, .one (.e (.sl 0 0 x1.length))), (3, .one (.e (.sl 1 0 x87.length))), (4, I i88)], [.row .nod x1 false, .row .nod (x87.set i88.toNat (⟨i119, s120, i121⟩ : Nod)) true]⟩ (by kernel_rfl) ⟨hg123, trivial, trivial⟩ ?_
      refine WO_eq (st' := ⟨[(0, .one (.e (.sl 0 0 x1.length))), (3, .one (.e (.sl 1 0 ((x87.set i88.toNat (⟨i119, s120, i121⟩ : Nod)).length)))), (4, I i88)], [.row .nod x1 false, .row .nod (x87.set i88.toNat (⟨i119, s120, i121⟩ : Nod)) true]⟩) (by simp only [List.length_set]) ?_
      refine WO_nil rfl ?_
      refine blockS_n ?_
      refine thenS_n ?_
      refine W_region ?_
      refine WO_step 3 [0, 1] [0, 3, 4] (True ∧ True) ⟨[(0, .one (.e (.sl 0 0 x1.length))), (3, .one (.e (.sl 1 0 ((x87.set i88.toNat (⟨i119, s120, i121⟩ : Nod)).length)))), (4, I (w64 (i88 + 1)))], [.row .nod x1 false, .row .nod (x87.set i88.toNat (⟨i119, s120, i121⟩ : Nod)) true]⟩ (by kernel_rfl) ⟨trivial, trivial⟩ ?_
      refine WO_nil rfl ?_
      refine thenS_n ?_
      exact ih _ _ h
    · refine W_sub [0, 1] [3] (st' := ⟨[(3, .one (.e (.sl 1 0 x87.length)))], [.row .nod x1 false, .row .nod x87 true]⟩) (by kernel_rfl) ?_
      refine W_exit ?_
      refine thenS_e ?_
      refine thenS_e ?_
      cases h
      exact And.intro rfl rfl

def laws_toNodeS (n : Nat) (x1 : List Nod) : Option ((List Nod)) :=
 guardO ((((x1.length : Nat) : Int) : Int) = ((x1.length : Nat) : Int) ∧ 0 ≤ ((x1.length : Nat) : Int) ∧ ((x1.length : Nat) : Int) ≤ 1099511627776) <|
 bindO (laws_toNodeS_L1 x1 n (List.replicate (((x1.length : Nat) : Int).toNat) dnod) 0) fun x107 =>
 some x107

theorem laws_toNodeS_ok (n : Nat) (x1 : List Nod) (x63 : List Nod) (h : laws_toNodeS n x1 = some x63) : FOk EE 8 [.one (.e (.sl 0 0 x1.length))] [.row .nod x1 false] (.one (.e (.sl 1 0 x63.length))) [.row .nod x1 false, .row .nod x63 true] := by
  unfold laws_toNodeS at h
  refine FOk_of_W 23 1 Try.func8 rfl rfl (Nat.le_of_ble_eq_true rfl) rfl (fun w X θ => ?_)
  refine W_seq ?_
  refine W_region ?_
  refine WO_step 1 [0] [0] True ⟨[(0, .one (.e (.sl 0 0 x1.length)))], [.row .nod x1 false]⟩ (by kernel_rfl) trivial ?_
  refine WO_nil rfl ?_
  refine thenS_n ?_
  refine W_seq ?_
  refine W_region ?_
  refine guardO_e h (fun hg64 h => ?_)
  refine WO_step 4 [0, 1] [0, 3] (True ∧ (((((x1.length : Nat) : Int) : Int) = ((x1.length : Nat) : Int) ∧ 0 ≤ ((x1.length : Nat) : Int) ∧ ((x1.length : Nat) : Int) ≤ 1099511627776) ∧ True)) ⟨[(0, .one (.e (.sl 0 0 x1.length))), (3, .one (.e (.sl 1 0 ((List.replicate (((x1.length : Nat) : Int).toNat) dnod).length))))], [.row .nod x1 false, .row .nod (List.replicate (((x1.length : Nat) : Int).toNat) dnod) true]⟩ (by kernel_rfl) ⟨trivial, hg64, trivial⟩ ?_
  refine WO_nil rfl ?_
  refine thenS_n ?_
  refine W_seq ?_
  refine W_seq ?_
  refine W_region ?_
  refine WO_step 1 [0, 1] [0, 3, 4] True ⟨[(0, .one (.e (.sl 0 0 x1.length))), (3, .one (.e (.sl 1 0 ((List.replicate (((x1.length : Nat) : Int).toNat) dnod).length)))), (4, I 0)], [.row .nod x1 false, .row .nod (List.replicate (((x1.length : Nat) : Int).toNat) dnod) true]⟩ (by kernel_rfl) trivial ?_
  refine WO_nil rfl ?_
  refine thenS_n ?_
  refine W_block ?_
  refine W_loop ?_
  refine bindO_e h (fun x107 hx107 h => ?_)
  refine WL_cut (laws_toNodeS_L1_ok w X θ x1 x107 n (List.replicate (((x1.length : Nat) : Int).toNat) dnod) 0 hx107) ?_
  rintro _ _ ⟨rfl, rfl⟩
  refine blockS_y ?_
  refine thenS_n ?_
  refine W_seq ?_
  refine W_region ?_
  refine WO_step 2 [0, 1] [2] True ⟨[(2, .one (.e (.sl 1 0 x107.length)))], [.row .nod x1 false, .row .nod x107 true]⟩ (by kernel_rfl) trivial ?_
  refine WO_nil rfl ?_
  refine thenS_n ?_
  refine W_ret ?_
  cases h
  exact ⟨[0, 1], True, by kernel_rfl, trivial⟩

/- spec.inRange -/
def spec_inRange (i1 : Int) (i2 : Int) (i3 : Int) : Bool :=
((decide (i2 ≤ i1)) && (decide (i1 ≤ i3)))

theorem spec_inRange_ok (i1 : Int) (i2 : Int) (i3 : Int) : FOk EE 43 [I i1, I i2, I i3] [] (B (spec_inRange i1 i2 i3)) [] := by
  refine FOk_of_W 15 0 Try.func43 rfl rfl (Nat.le_of_ble_eq_true rfl) rfl (fun w X θ => ?_)
  refine W_seq ?_
  refine W_region ?_
  refine WO_step 1 [] [0, 1, 2] True ⟨[(0, I i1), (1, I i2), (2, I i3)], []⟩ (by kernel_rfl) trivial ?_
  refine WO_nil rfl ?_
  refine thenS_n ?_
  refine W_seq ?_
  refine W_region ?_
  refine WO_step 4 [] [0, 2, 10] (True ∧ True) ⟨[(0, I i1), (2, I i3), (10, B (decide (i2 ≤ i1)))], []⟩ (by kernel_rfl) ⟨trivial, trivial⟩ ?_
  refine WO_thru ⟨[(6, B ((decide (i2 ≤ i1)) && (decide (i1 ≤ i3))))], []⟩ ?_ ?_
  · refine WO_if 10 rfl (fun hb10 => ?_) (fun hb10 => ?_)
    · refine WO_step 5 [] [6] (True ∧ True) ⟨[(6, B (decide (i1 ≤ i3)))], []⟩ (by kernel_rfl) ⟨trivial, trivial⟩ ?_
      exact WO_nil rfl ⟨rfl, by first | rfl | (rw [hb10]; first | done | rfl)⟩
    · refine WO_step 5 [] [6] True ⟨[(6, B false)], []⟩ (by kernel_rfl) trivial ?_
      exact WO_nil rfl ⟨rfl, by first | rfl | (rw [hb10]; first | done | rfl)⟩
  · refine thenS_n ?_
    refine W_ret ?_
    exact ⟨[], True, by kernel_rfl, trivial⟩

/- spec.validName -/
def spec_validName_L1 (s1 : Str) : Nat → Int → Option ((Unit) ⊕ (Unit))
| 0, _ => none
| n + 1, i44 =>
 iteO (decide (i44 < ((s1.length : Nat) : Int)))
 (guardO (0 ≤ i44 ∧ i44 < ((s1.length : Nat) : Int)) <|
 iteO (!(spec_inRange (w64 ((s1.getD i44.toNat 0).toNat : Int)) 97 122))
 (some (.inl ()))
 (spec_validName_L1 s1 n (w64 (i44 + 1))))
 (some (.inr ()))

theorem spec_validName_L1_ok (w : World) (X : Nat → Prop) (θ : List Loc) (s1 : Str) (v : (Unit) ⊕ (Unit)) : ∀ (n : Nat) (i44 : Int), spec_validName_L1 s1 n i44 = some v → WL EE ⟨w, X, θ, 19, 0⟩ (subC [1, 0, 1, 4, 4] (bodyC Try.f60)) (fun (e : Exit) (s : St) => (match v with | (.inl _) => e = .ret ∧ s = ⟨[(2, B false)], []⟩ | (.inr _) => e = .exit 0 ∧ s = ⟨[(0, S s1)], []⟩ : Prop)) ⟨[(0, S s1), (3, I i44)], []⟩ := by
  intro n
  induction n with
  | zero => intro _ h; exact none_e h
  | succ n ih =>
    intro i44 h
    rw [spec_validName_L1] at h
    refine WL_round ?_
    refine W_seq ?_
    refine W_seq ?_
    refine W_region ?_
    refine WO_step 4 [] [0, 3, 7] (True ∧ (True ∧ True)) ⟨[(0, S s1), (3, I i44), (7, B (decide (i44 < ((s1.length : Nat) : Int))))], []⟩ (by kernel_rfl) ⟨trivial, trivial, trivial⟩ ?_
    refine WO_nil rfl ?_
    refine thenS_n ?_
    refine iteO_e h (fun hb56 h => W_true rfl hb56 ?_) (fun hb56 h => W_false rfl hb56 ?_)
    · refine W_sub [] [0, 3] (st' := ⟨[(0, S s1), (3, I i44)], []⟩) (by kernel_rfl) ?_
      refine W_skip ?_
      refine thenS_n ?_
      refine W_seq ?_
      refine W_block ?_
      refine W_seq ?_
      refine W_region ?_
      refine guardO_e h (fun hg60 h => ?_)
      refine WO_step 4 [] [0, 3, 13] ((0 ≤ i44 ∧ i44 < ((s1.length : Nat) : Int)) ∧ (True ∧ True)) ⟨[(0, S s1), (3, I i44), (13, I (w64 ((s1.getD i44.toNat 0).toNat : Int)))], []⟩ (by kernel_rfl) ⟨hg60, trivial, trivial⟩ ?_
      refine WO_call [] Try.f43 rfl rfl rfl (by kernel_rfl) Try.func43 rfl (by kernel_rfl) (spec_inRange_ok (w64 ((s1.getD i44.toNat 0).toNat : Int)) 97 122) (trivial) rfl ?_
      refine WO_step 1 [] [0, 3, 15] True ⟨[(0, S s1), (3, I i44), (15, B (!(spec_inRange (w64 ((s1.getD i44.toNat 0).toNat : Int)) 97 122)))], []⟩ (by kernel_rfl) trivial ?_
      refine WO_nil rfl ?_
      refine thenS_n ?_
      refine iteO_e h (fun hb62 h => W_true rfl hb62 ?_) (fun hb62 h => W_false rfl hb62 ?_)
      · refine W_seq ?_
        refine W_region ?_
        refine WO_step 1 [] [2] True ⟨[(2, B false)], []⟩ (by kernel_rfl) trivial ?_
        refine WO_nil rfl ?_
        refine thenS_n ?_
        refine W_ret ?_
        refine blockS_r ?_
        refine thenS_r ?_
        refine thenS_r ?_
        cases h
        exact And.intro rfl rfl
      · refine W_sub [] [0, 3] (st' := ⟨[(0, S s1), (3, I i44)], []⟩) (by kernel_rfl) ?_
        refine W_skip ?_
        refine blockS_n ?_
        refine thenS_n ?_
        refine W_region ?_
        refine WO_step 3 [] [0, 3] (True ∧ True) ⟨[(0, S s1), (3, I (w64 (i44 + 1)))], []⟩ (by kernel_rfl) ⟨trivial, trivial⟩ ?_
        refine WO_nil rfl ?_
        refine thenS_n ?_
        exact ih _ h
    · refine W_sub [] [0] (st' := ⟨[(0, S s1)], []⟩) (by kernel_rfl) ?_
      refine W_exit ?_
      refine thenS_e ?_
      refine thenS_e ?_
      cases h
      exact And.intro rfl rfl

def spec_validName (n : Nat) (s1 : Str) : Option (Bool) :=
 bindO (spec_validName_L1 s1 n 0) fun v63 =>
 match v63 with
 | (.inl _) => (some false)
 | (.inr _) => (some (spec_inRange ((s1.length : Nat) : Int) 1 4))


theorem spec_validName_ok (n : Nat) (s1 : Str) (b32 : Bool) (h : spec_validName n s1 = some b32) : FOk EE 60 [S s1] [] (B b32) [] := by
  unfold spec_validName at h
  refine FOk_of_W 19 0 Try.func60 rfl rfl (Nat.le_of_ble_eq_true rfl) rfl (fun w X θ => ?_)
  refine W_seq ?_
  refine W_region ?_
  refine WO_step 1 [] [0] True ⟨[(0, S s1)], []⟩ (by kernel_rfl) trivial ?_
  refine WO_nil rfl ?_
  refine thenS_n ?_
  refine W_seq ?_
  refine W_seq ?_
  refine W_region ?_
  refine WO_step 1 [] [0, 3] True ⟨[(0, S s1), (3, I 0)], []⟩ (by kernel_rfl) trivial ?_
  refine WO_nil rfl ?_
  refine thenS_n ?_
  refine W_block ?_
  refine W_loop ?_
  refine bindO_e h (fun v63 hv63 h => ?_)
  refine WL_cut (spec_validName_L1_ok w X θ s1 v63 n 0 hv63) ?_
  rcases v63 with _ | _
  · rintro _ _ ⟨rfl, rfl⟩
    refine blockS_r ?_
    refine thenS_r ?_
    cases h
    exact ⟨[], True, by kernel_rfl, trivial⟩
  · rintro _ _ ⟨rfl, rfl⟩
    refine blockS_y ?_
    refine thenS_n ?_
    refine W_seq ?_
    refine W_region ?_
    refine WO_step 2 [] [17] (True ∧ True) ⟨[(17, I ((s1.length : Nat) : Int))], []⟩ (by kernel_rfl) ⟨trivial, trivial⟩ ?_
    refine WO_call [] Try.f43 rfl rfl rfl (by kernel_rfl) Try.func43 rfl (by kernel_rfl) (spec_inRange_ok ((s1.length : Nat) : Int) 1 4) (trivial) rfl ?_
    refine WO_step 1 [] [2] True ⟨[(2, B (spec_inRange ((s1.length : Nat) : Int) 1 4))], []⟩ (by kernel_rfl) trivial ?_
    refine WO_nil rfl ?_
    refine thenS_n ?_
    refine W_ret ?_
    cases h
    exact ⟨[], True, by kernel_rfl, trivial⟩

/- spec.kid -/
def spec_kid_L1 (x1 : List Nod) (i2 : Int) (s3 : Str) : Nat → Int → Option ((Int) ⊕ (Unit))
| 0, _ => none
| n + 1, i97 =>
 iteO (decide (i97 < ((x1.length : Nat) : Int)))
 (guardO (0 ≤ i97 ∧ i97 < ((x1.length : Nat) : Int)) <|
 bindO (iteO (decide (((x1.getD i97.toNat dnod).parent) = i2))
 (guardO (0 ≤ i97 ∧ i97 < ((x1.length : Nat) : Int)) <|
 some (decide (((x1.getD i97.toNat dnod).name) = s3)))
 (some false)) fun b135 =>
 iteO b135
 (some (.inl i97))
 (spec_kid_L1 x1 i2 s3 n (w64 (i97 + 1))))
 (some (.inr ()))

theorem spec_kid_L1_ok (w : World) (X : Nat → Prop) (θ : List Loc) (x1 : List Nod) (i2 : Int) (s3 : Str) (v : (Int) ⊕ (Unit)) : ∀ (n : Nat) (i97 : Int), spec_kid_L1 x1 i2 s3 n i97 = some v → WL EE ⟨w, X, θ, 31, 1⟩ (subC [1, 0, 1, 4, 4] (bodyC Try.f61)) (fun (e : Exit) (s : St) => (match v with | (.inl i119) => e = .ret ∧ s = ⟨[(6, I i119)], [.row .nod x1 false]⟩ | (.inr _) => e = .exit 0 ∧ s = ⟨[], [.row .nod x1 false]⟩ : Prop)) ⟨[(0, .one (.e (.sl 0 0 x1.length))), (1, I i2), (2, S s3), (7, I i97)], [.row .nod x1 false]⟩ := by
  intro n
  induction n with
  | zero => intro _ h; exact none_e h
  | succ n ih =>
    intro i97 h
    rw [spec_kid_L1] at h
    refine WL_round ?_
    refine W_seq ?_
    refine W_seq ?_
    refine W_region ?_
    refine WO_step 4 [0] [0, 1, 2, 7, 11] (True ∧ (True ∧ True)) ⟨[(0, .one (.e (.sl 0 0 x1.length))), (1, I i2), (2, S s3), (7, I i97), (11, B (decide (i97 < ((x1.length : Nat) : Int))))], [.row .nod x1 false]⟩ (by kernel_rfl) ⟨trivial, trivial, trivial⟩ ?_
    refine WO_nil rfl ?_
    refine thenS_n ?_
    refine iteO_e h (fun hb122 h => W_true rfl hb122 ?_) (fun hb122 h => W_false rfl hb122 ?_)
    · refine W_sub [0] [0, 1, 2, 7] (st' := ⟨[(0, .one (.e (.sl 0 0 x1.length))), (1, I i2), (2, S s3), (7, I i97)], [.row .nod x1 false]⟩) (by kernel_rfl) ?_
      refine W_skip ?_
      refine thenS_n ?_
      refine W_seq ?_
      refine W_block ?_
      refine W_seq ?_
      refine W_region ?_
      refine guardO_e h (fun hg132 h => ?_)
      refine WO_step 8 [0] [0, 1, 2, 7, 21] ((0 ≤ i97 ∧ i97 < ((x1.length : Nat) : Int)) ∧ (True ∧ (True ∧ True))) ⟨[(0, .one (.e (.sl 0 0 x1.length))), (1, I i2), (2, S s3), (7, I i97), (21, B (decide (((x1.getD i97.toNat dnod).parent) = i2)))], [.row .nod x1 false]⟩ (by kernel_rfl) ⟨hg132, trivial, trivial, trivial⟩ ?_
      refine bindO_e h (fun b135 hv136 h => ?_)
      refine WO_thru ⟨[(0, .one (.e (.sl 0 0 x1.length))), (1, I i2), (2, S s3), (7, I i97), (29, B b135)], [.row .nod x1 false]⟩ ?_ ?_
      · refine iteO_e hv136 (fun hb137 hv136 => WO_known 21 true rfl hb137 ?_) (fun hb137 hv136 => WO_known 21 false rfl hb137 ?_)
        · refine guardO_e hv136 (fun hg138 hv136 => ?_)
          refine WO_step 8 [0] [0, 1, 2, 7, 29] ((0 ≤ i97 ∧ i97 < ((x1.length : Nat) : Int)) ∧ (True ∧ (True ∧ True))) ⟨[(0, .one (.e (.sl 0 0 x1.length))), (1, I i2), (2, S s3), (7, I i97), (29, B (decide (((x1.getD i97.toNat dnod).name) = s3)))], [.row .nod x1 false]⟩ (by kernel_rfl) ⟨hg138, trivial, trivial, trivial⟩ ?_
          cases hv136
          exact WO_nil rfl ⟨rfl, rfl⟩
        · refine WO_step 8 [0] [0, 1, 2, 7, 29] True ⟨[(0, .one (.e (.sl 0 0 x1.length))), (1, I i2), (2, S s3), (7, I i97), (29, B false)], [.row .nod x1 false]⟩ (by kernel_rfl) trivial ?_
          cases hv136
          exact WO_nil rfl ⟨rfl, rfl⟩
      · refine thenS_n ?_
        refine iteO_e h (fun hb140 h => W_true rfl hb140 ?_) (fun hb140 h => W_false rfl hb140 ?_)
        · refine W_seq ?_
          refine W_region ?_
          refine WO_step 2 [0] [6] True ⟨[(6, I i97)], [.row .nod x1 false]⟩ (by kernel_rfl) trivial ?_
          refine WO_nil rfl ?_
          refine thenS_n ?_
          refine W_ret ?_
          refine blockS_r ?_
          refine thenS_r ?_
          refine thenS_r ?_
          cases h
          exact And.intro rfl rfl
        · refine W_sub [0] [0, 1, 2, 7] (st' := ⟨[(0, .one (.e (.sl 0 0 x1.length))), (1, I i2), (2, S s3), (7, I i97)], [.row .nod x1 false]⟩) (by kernel_rfl) ?_
          refine W_skip ?_
          refine blockS_n ?_
          refine thenS_n ?_
          refine W_region ?_
          refine WO_step 3 [0] [0, 1, 2, 7] (True ∧ True) ⟨[(0, .one (.e (.sl 0 0 x1.length))), (1, I i2), (2, S s3), (7, I (w64 (i97 + 1)))], [.row .nod x1 false]⟩ (by kernel_rfl) ⟨trivial, trivial⟩ ?_
          refine WO_nil rfl ?_
          refine thenS_n ?_
          exact ih _ h
    · refine W_sub [0] [] (st' := ⟨[], [.row .nod x1 false]⟩) (by kernel_rfl) ?_
      refine W_exit ?_
      refine thenS_e ?_
      refine thenS_e ?_
      cases h
      exact And.intro rfl rfl

def spec_kid (n : Nat) (x1 : List Nod) (i2 : Int) (s3 : Str) : Option (Int) :=
 bindO (spec_kid_L1 x1 i2 s3 n 1) fun v141 =>
 match v141 with
 | (.inl i119) => (some i119)
 | (.inr _) => (some (-1))


theorem spec_kid_ok (n : Nat) (x1 : List Nod) (i2 : Int) (s3 : Str) (i72 : Int) (h : spec_kid n x1 i2 s3 = some i72) : FOk EE 61 [.one (.e (.sl 0 0 x1.length)), I i2, S s3] [.row .nod x1 false] (I i72) [.row .nod x1 false] := by
  unfold spec_kid at h
  refine FOk_of_W 31 1 Try.func61 rfl rfl (Nat.le_of_ble_eq_true rfl) rfl (fun w X θ => ?_)
  refine W_seq ?_
  refine W_region ?_
  refine WO_step 1 [0] [0, 1, 2] True ⟨[(0, .one (.e (.sl 0 0 x1.length))), (1, I i2), (2, S s3)], [.row .nod x1 false]⟩ (by kernel_rfl) trivial ?_
  refine WO_nil rfl ?_
  refine thenS_n ?_
  refine W_seq ?_
  refine W_seq ?_
  refine W_region ?_
  refine WO_step 1 [0] [0, 1, 2, 7] True ⟨[(0, .one (.e (.sl 0 0 x1.length))), (1, I i2), (2, S s3), (7, I 1)], [.row .nod x1 false]⟩ (by kernel_rfl) trivial ?_
  refine WO_nil rfl ?_
  refine thenS_n ?_
  refine W_block ?_
  refine W_loop ?_
  refine bindO_e h (fun v141 hv141 h => ?_)
  refine WL_cut (spec_kid_L1_ok w X θ x1 i2 s3 v141 n 1 hv141) ?_
  rcases v141 with i119 | _
  · rintro _ _ ⟨rfl, rfl⟩
    refine blockS_r ?_
    refine thenS_r ?_
    cases h
    exact ⟨[0], True, by kernel_rfl, trivial⟩
  · rintro _ _ ⟨rfl, rfl⟩
    refine blockS_y ?_
    refine thenS_n ?_
    refine W_seq ?_
    refine W_region ?_
    refine WO_step 1 [0] [6] True ⟨[(6, I (-1))], [.row .nod x1 false]⟩ (by kernel_rfl) trivial ?_
    refine WO_nil rfl ?_
    refine thenS_n ?_
    refine W_ret ?_
    cases h
    exact ⟨[0], True, by kernel_rfl, trivial⟩

/- spec.depth -/
def spec_depth_L1 (x1 : List Nod) : Nat → Int → Int → Option (Int)
| 0, _, _ => none
| n + 1, i42, i43 =>
 guardO (0 ≤ i42 ∧ i42 < ((x1.length : Nat) : Int)) <|
 iteO (decide (0 ≤ ((x1.getD i42.toNat dnod).parent)))
 (guardO (0 ≤ i42 ∧ i42 < ((x1.length : Nat) : Int)) <|
 spec_depth_L1 x1 n ((x1.getD i42.toNat dnod).parent) (w64 (i43 + 1)))
 (some i43)

theorem spec_depth_L1_ok (w : World) (X : Nat → Prop) (θ : List Loc) (x1 : List Nod) (i51 : Int) : ∀ (n : Nat) (i42 : Int) (i43 : Int), spec_depth_L1 x1 n i42 i43 = some i51 → WL EE ⟨w, X, θ, 20, 1⟩ (subC [1, 1, 0, 4, 4] (bodyC Try.f62)) (fun (e : Exit) (s : St) => e = .exit 0 ∧ s = ⟨[(5, I i51)], [.row .nod x1 false]⟩) ⟨[(0, .one (.e (.sl 0 0 x1.length))), (1, I i42), (5, I i43)], [.row .nod x1 false]⟩ := by
  intro n
  induction n with
  | zero => intro _ _ h; exact none_e h
  | succ n ih =>
    intro i42 i43 h
    rw [spec_depth_L1] at h
    refine WL_round ?_
    refine W_seq ?_
    refine W_seq ?_
    refine W_region ?_
    refine guardO_e h (fun hg53 h => ?_)
    refine WO_step 6 [0] [0, 1, 5, 11] ((0 ≤ i42 ∧ i42 < ((x1.length : Nat) : Int)) ∧ (True ∧ (True ∧ True))) ⟨[(0, .one (.e (.sl 0 0 x1.length))), (1, I i42), (5, I i43), (11, B (decide (0 ≤ ((x1.getD i42.toNat dnod).parent))))], [.row .nod x1 false]⟩ (by kernel_rfl) ⟨hg53, trivial, trivial, trivial⟩ ?_
    refine WO_nil rfl ?_
    refine thenS_n ?_
    refine iteO_e h (fun hb55 h => W_true rfl hb55 ?_) (fun hb55 h => W_false rfl hb55 ?_)
    · refine W_sub [0] [0, 1, 5] (st' := ⟨[(0, .one (.e (.sl 0 0 x1.length))), (1, I i42), (5, I i43)], [.row .nod x1 false]⟩) (by kernel_rfl) ?_
      refine W_skip ?_
      refine thenS_n ?_
      refine W_block ?_
      refine W_seq ?_
      refine W_region ?_
      refine guardO_e h (fun hg57 h => ?_)
      refine WO_step 6 [0] [0, 1, 5] ((0 ≤ i42 ∧ i42 < ((x1.length : Nat) : Int)) ∧ (True ∧ True)) ⟨[(0, .one (.e (.sl 0 0 x1.length))), (1, I ((x1.getD i42.toNat dnod).parent)), (5, I i43)], [.row .nod x1 false]⟩ (by kernel_rfl) ⟨hg57, trivial, trivial⟩ ?_
      refine WO_nil rfl ?_
      refine thenS_n ?_
      refine W_region ?_
      refine WO_step 3 [0] [0, 1, 5] (True ∧ True) ⟨[(0, .one (.e (.sl 0 0 x1.length))), (1, I ((x1.getD i42.toNat dnod).parent)), (5, I (w64 (i43 + 1)))], [.row .nod x1 false]⟩ (by kernel_rfl) ⟨trivial, trivial⟩ ?_
      refine WO_nil rfl ?_
      refine blockS_n ?_
      refine thenS_n ?_
      exact ih _ _ h
    · refine W_sub [0] [5] (st' := ⟨[(5, I i43)], [.row .nod x1 false]⟩) (by kernel_rfl) ?_
      refine W_exit ?_
      refine thenS_e ?_
      refine thenS_e ?_
      cases h
      exact And.intro rfl rfl

def spec_depth (n : Nat) (x1 : List Nod) (i2 : Int) : Option (Int) :=
 bindO (spec_depth_L1 x1 n i2 0) fun i51 =>
 some i51

theorem spec_depth_ok (n : Nat) (x1 : List Nod) (i2 : Int) (i30 : Int) (h : spec_depth n x1 i2 = some i30) : FOk EE 62 [.one (.e (.sl 0 0 x1.length)), I i2] [.row .nod x1 false] (I i30) [.row .nod x1 false] := by
  unfold spec_depth at h
  refine FOk_of_W 20 1 Try.func62 rfl rfl (Nat.le_of_ble_eq_true rfl) rfl (fun w X θ => ?_)
  refine W_seq ?_
  refine W_region ?_
  refine WO_step 1 [0] [0, 1] True ⟨[(0, .one (.e (.sl 0 0 x1.length))), (1, I i2)], [.row .nod x1 false]⟩ (by kernel_rfl) trivial ?_
  refine WO_nil rfl ?_
  refine thenS_n ?_
  refine W_seq ?_
  refine W_region ?_
  refine WO_step 1 [0] [0, 1, 5] True ⟨[(0, .one (.e (.sl 0 0 x1.length))), (1, I i2), (5, I 0)], [.row .nod x1 false]⟩ (by kernel_rfl) trivial ?_
  refine WO_nil rfl ?_
  refine thenS_n ?_
  refine W_seq ?_
  refine W_block ?_
  refine W_loop ?_
  refine bindO_e h (fun i51 hi51 h => ?_)
  refine WL_cut (spec_depth_L1_ok w X θ x1 i51 n i2 0 hi51) ?_
  rintro _ _ ⟨rfl, rfl⟩
  refine blockS_y ?_
  refine thenS_n ?_
  refine W_seq ?_
  refine W_region ?_
  refine WO_step 2 [0] [4] True ⟨[(4, I i51)], [.row .nod x1 false]⟩ (by kernel_rfl) trivial ?_
  refine WO_nil rfl ?_
  refine thenS_n ?_
  refine W_ret ?_
  cases h
  exact ⟨[0], True, by kernel_rfl, trivial⟩

/- spec.validNode -/
def spec_validNode (n : Nat) (x1 : List Nod) (i2 : Int) : Option (Bool) :=
 guardO (0 ≤ i2 ∧ i2 < ((x1.length : Nat) : Int)) <|
 iteO (!(spec_inRange ((x1.getD i2.toNat dnod).value) (-1000) 1000))
 (some false)
 (iteO (decide (i2 = 0))
 (guardO (0 ≤ i2 ∧ i2 < ((x1.length : Nat) : Int)) <|
 bindO (iteO (decide (((x1.getD i2.toNat dnod).parent) = (-1)))
 (guardO (0 ≤ i2 ∧ i2 < ((x1.length : Nat) : Int)) <|
 some (decide (((x1.getD i2.toNat dnod).name) = [])))
 (some false)) fun b54 =>
 some b54)
 (guardO (0 ≤ i2 ∧ i2 < ((x1.length : Nat) : Int)) <|
 bindO (iteO (spec_inRange ((x1.getD i2.toNat dnod).parent) 0 (w64 (i2 - 1)))
 (guardO (0 ≤ i2 ∧ i2 < ((x1.length : Nat) : Int)) <|
 bindO (spec_validName n ((x1.getD i2.toNat dnod).name)) fun b61 =>
 iteO b61
 (guardO (0 ≤ i2 ∧ i2 ≤ ((x1.length : Nat) : Int)) <|
 guardO (0 ≤ i2 ∧ i2 < ((x1.length : Nat) : Int)) <|
 guardO (0 ≤ i2 ∧ i2 < ((x1.length : Nat) : Int)) <|
 bindO (spec_kid n ((x1.drop 0).take i2.toNat) ((x1.getD i2.toNat dnod).parent) ((x1.getD i2.toNat dnod).name)) fun i67 =>
 iteO (decide (i67 < 0))
 (bindO (spec_depth n x1 i2) fun i70 =>
 some (decide (i70 ≤ 4)))
 (some false))
 (some false))
 (some false)) fun b72 =>
 some b72))

theorem spec_validNode_ok (n : Nat) (x1 : List Nod) (i2 : Int) (b38 : Bool) (h : spec_validNode n x1 i2 = some b38) : FOk EE 42 [.one (.e (.sl 0 0 x1.length)), I i2] [.row .nod x1 false] (B b38) [.row .nod x1 false] := by
  unfold spec_validNode at h
  refine FOk_of_W 67 1 Try.func42 rfl rfl (Nat.le_of_ble_eq_true rfl) rfl (fun w X θ => ?_)
  refine W_seq ?_
  refine W_region ?_
  refine WO_step 1 [0] [0, 1] True ⟨[(0, .one (.e (.sl 0 0 x1.length))), (1, I i2)], [.row .nod x1 false]⟩ (by kernel_rfl) trivial ?_
  refine WO_nil rfl ?_
  refine thenS_n ?_
  refine W_seq ?_
  refine W_seq ?_
  refine W_region ?_
  refine guardO_e h (fun hg39 h => ?_)
  refine WO_step 5 [0] [0, 1, 9] ((0 ≤ i2 ∧ i2 < ((x1.length : Nat) : Int)) ∧ (True ∧ True)) ⟨[(0, .one (.e (.sl 0 0 x1.length))), (1, I i2), (9, I ((x1.getD i2.toNat dnod).value))], [.row .nod x1 false]⟩ (by kernel_rfl) ⟨hg39, trivial, trivial⟩ ?_
  refine WO_call [] Try.f43 rfl rfl rfl (by kernel_rfl) Try.func43 rfl (by kernel_rfl) (spec_inRange_ok ((x1.getD i2.toNat dnod).value) (-1000) 1000) (trivial) rfl ?_
  refine WO_step 1 [0] [0, 1, 11] True ⟨[(0, .one (.e (.sl 0 0 x1.length))), (1, I i2), (11, B (!(spec_inRange ((x1.getD i2.toNat dnod).value) (-1000) 1000)))], [.row .nod x1 false]⟩ (by kernel_rfl) trivial ?_
  refine WO_nil rfl ?_
  refine thenS_n ?_
  refine iteO_e h (fun hb41 h => W_true rfl hb41 ?_) (fun hb41 h => W_false rfl hb41 ?_)
  · refine W_seq ?_
    refine W_region ?_
    refine WO_step 1 [0] [4] True ⟨[(4, B false)], [.row .nod x1 false]⟩ (by kernel_rfl) trivial ?_
    refine WO_nil rfl ?_
    refine thenS_n ?_
    refine W_ret ?_
    refine thenS_r ?_
    cases h
    exact ⟨[0], True, by kernel_rfl, trivial⟩
  · refine W_sub [0] [0, 1] (st' := ⟨[(0, .one (.e (.sl 0 0 x1.length))), (1, I i2)], [.row .nod x1 false]⟩) (by kernel_rfl) ?_
    refine W_skip ?_
    refine thenS_n ?_
    refine W_seq ?_
    refine W_seq ?_
    refine W_region ?_
    refine WO_step 2 [0] [0, 1, 13] (True ∧ True) ⟨[(0, .one (.e (.sl 0 0 x1.length))), (1, I i2), (13, B (decide (i2 = 0)))], [.row .nod x1 false]⟩ (by kernel_rfl) ⟨trivial, trivial⟩ ?_
    refine WO_nil rfl ?_
    refine thenS_n ?_
    refine iteO_e h (fun hb50 h => W_true rfl hb50 ?_) (fun hb50 h => W_false rfl hb50 ?_)
    · refine W_seq ?_
      refine W_region ?_
      refine guardO_e h (fun hg51 h => ?_)
      refine WO_step 7 [0] [0, 1, 20] ((0 ≤ i2 ∧ i2 < ((x1.length : Nat) : Int)) ∧ (True ∧ (True ∧ True))) ⟨[(0, .one (.e (.sl 0 0 x1.length))), (1, I i2), (20, B (decide (((x1.getD i2.toNat dnod).parent) = (-1))))], [.row .nod x1 false]⟩ (by kernel_rfl) ⟨hg51, trivial, trivial, trivial⟩ ?_
      refine bindO_e h (fun b54 hv55 h => ?_)
      refine WO_thru ⟨[(4, B b54)], [.row .nod x1 false]⟩ ?_ ?_
      · refine iteO_e hv55 (fun hb56 hv55 => WO_known 20 true rfl hb56 ?_) (fun hb56 hv55 => WO_known 20 false rfl hb56 ?_)
        · refine guardO_e hv55 (fun hg57 hv55 => ?_)
          refine WO_step 8 [0] [4] ((0 ≤ i2 ∧ i2 < ((x1.length : Nat) : Int)) ∧ (True ∧ (True ∧ True))) ⟨[(4, B (decide (((x1.getD i2.toNat dnod).name) = [])))], [.row .nod x1 false]⟩ (by kernel_rfl) ⟨hg57, trivial, trivial, trivial⟩ ?_
          cases hv55
          exact WO_nil rfl ⟨rfl, rfl⟩
        · refine WO_step 8 [0] [4] True ⟨[(4, B false)], [.row .nod x1 false]⟩ (by kernel_rfl) trivial ?_
          cases hv55
          exact WO_nil rfl ⟨rfl, rfl⟩
      · refine thenS_n ?_
        refine W_ret ?_
        refine thenS_r ?_
        cases h
        exact ⟨[0], True, by kernel_rfl, trivial⟩
    · refine W_sub [0] [0, 1] (st' := ⟨[(0, .one (.e (.sl 0 0 x1.length))), (1, I i2)], [.row .nod x1 false]⟩) (by kernel_rfl) ?_
      refine W_skip ?_
      refine thenS_n ?_
      refine W_seq ?_
      refine guardO_e h (fun hg58 h => ?_)
      refine bindO_e h (fun b72 hv73 h => ?_)
      refine W_cut (Q' := fun (e : Exit) (s : St) => e = .normal ∧ s = ⟨[(4, B b72)], [.row .nod x1 false]⟩) ?_ ?_
      · refine iteO_e hv73 (fun hb59 hv73 => ?_) (fun hb59 hv73 => ?_)
        · refine guardO_e hv73 (fun hg60 hv73 => ?_)
          refine bindO_e hv73 (fun b61 hc62 hv73 => ?_)
          refine iteO_e hv73 (fun hb63 hv73 => ?_) (fun hb63 hv73 => ?_)
          · refine guardO_e hv73 (fun hg64 hv73 => ?_)
            refine guardO_e hv73 (fun hg65 hv73 => ?_)
            refine guardO_e hv73 (fun hg66 hv73 => ?_)
            refine bindO_e hv73 (fun i67 hc68 hv73 => ?_)
            refine iteO_e hv73 (fun hb69 hv73 => ?_) (fun hb69 hv73 => ?_)
            · refine bindO_e hv73 (fun i70 hc71 hv73 => ?_)
              refine W_draw [] false (by kernel_rfl) (by kernel_rfl) ?_
              refine WD_takeK [0, 1, 2, 3, 4, 5, 6] [0, 1, 32, 34] [0, 1, 32, 34] (φ := ((0 ≤ i2 ∧ i2 < ((x1.length : Nat) : Int)) ∧ (0 ≤ i2 ∧ i2 < ((x1.length : Nat) : Int)) ∧ (True ∧ True ∧ (True ∧ True ∧ True)))) (ls' := #[true, true, true, true, true, true, true, false, false, false, false, false, false, false, false, false, false, false, false, false, false, false, false, false, false, false, false, false, false, false, false, false, false, false, false, false, false, false, false, false]) (Ts' := [(0, .one (.e (.sl 0 0 x1.length))), (1, I i2), (32, I ((x1.getD i2.toNat dnod).parent)), (34, I (w64 (i2 - 1)))]) (st' := ⟨[(0, .one (.e (.sl 0 0 x1.length))), (1, I i2), (32, I ((x1.getD i2.toNat dnod).parent)), (34, I (w64 (i2 - 1)))], [.row .nod x1 false]⟩) (n2 := 33) (by kernel_rfl) ⟨hg58, hg58, trivial, trivial, trivial, trivial, trivial⟩ rfl ?_
              refine WD_all [7] (n := 32) (by kernel_rfl) rfl ?_
              refine WM_call [] Try.f43 rfl rfl (by kernel_rfl) Try.func43 rfl (by kernel_rfl) (spec_inRange_ok ((x1.getD i2.toNat dnod).parent) 0 (w64 (i2 - 1))) (trivial) rfl (And.intro rfl (trivial)) ?_
              refine WD_takeK [8] [0, 1, 36] [0, 1, 36] (φ := True) (ls' := #[true, true, true, true, true, true, true, true, true, false, false, false, false, false, false, false, false, false, false, false, false, false, false, false, false, false, false, false, false, false, false, false, false, false, false, false, false, false, false, false]) (Ts' := [(0, .one (.e (.sl 0 0 x1.length))), (1, I i2), (36, B (spec_inRange ((x1.getD i2.toNat dnod).parent) 0 (w64 (i2 - 1))))]) (st' := ⟨[(0, .one (.e (.sl 0 0 x1.length))), (1, I i2), (36, B (spec_inRange ((x1.getD i2.toNat dnod).parent) 0 (w64 (i2 - 1))))], [.row .nod x1 false]⟩) (n2 := 31) (by kernel_rfl) trivial rfl ?_
              refine WD_known 36 true rfl rfl hb59 ?_
              refine WD_takeK [9, 10, 11, 12, 13] [0, 1, 36, 41] [0, 1, 36, 41] (φ := ((0 ≤ i2 ∧ i2 < ((x1.length : Nat) : Int)) ∧ (0 ≤ i2 ∧ i2 < ((x1.length : Nat) : Int)) ∧ (True ∧ True ∧ True))) (ls' := #[true, true, true, true, true, true, true, true, true, true, true, true, true, true, false, false, false, false, false, false, false, false, false, false, false, false, false, false, false, false, false, false, false, false, false, false, false, false, false, false]) (Ts' := [(0, .one (.e (.sl 0 0 x1.length))), (1, I i2), (36, B true), (41, S ((x1.getD i2.toNat dnod).name))]) (st' := ⟨[(0, .one (.e (.sl 0 0 x1.length))), (1, I i2), (36, B true), (41, S ((x1.getD i2.toNat dnod).name))], [.row .nod x1 false]⟩) (n2 := 26) (by kernel_rfl) ⟨hg60, hg60, trivial, trivial, trivial⟩ rfl ?_
              refine WD_all [14] (n := 25) (by kernel_rfl) rfl ?_
              refine WM_call [] Try.f60 rfl rfl (by kernel_rfl) Try.func60 rfl (by kernel_rfl) (spec_validName_ok n ((x1.getD i2.toNat dnod).name) b61 hc62) (trivial) rfl (And.intro rfl (trivial)) ?_
              refine WD_takeK [15, 16] [0, 1, 44] [0, 1, 44] (φ := True) (ls' := #[true, true, true, true, true, true, true, true, true, true, true, true, true, true, true, true, true, false, false, false, false, false, false, false, false, false, false, false, false, false, false, false, false, false, false, false, false, false, false, false]) (Ts' := [(0, .one (.e (.sl 0 0 x1.length))), (1, I i2), (44, B b61)]) (st' := ⟨[(0, .one (.e (.sl 0 0 x1.length))), (1, I i2), (44, B b61)], [.row .nod x1 false]⟩) (n2 := 23) (by kernel_rfl) trivial rfl ?_
              refine WD_known 44 true rfl rfl hb63 ?_
              refine WD_takeK [17, 18, 20, 21, 22, 23, 24, 25, 26, 27, 28, 29] [0, 1, 44, 45, 46, 52, 57] [0, 1, 44, 45, 46, 52, 57] (φ := ((0 ≤ i2 ∧ i2 < ((x1.length : Nat) : Int)) ∧ (0 ≤ i2 ∧ i2 < ((x1.length : Nat) : Int)) ∧ (True ∧ True ∧ ((0 ≤ i2 ∧ i2 < ((x1.length : Nat) : Int)) ∧ (0 ≤ i2 ∧ i2 < ((x1.length : Nat) : Int)) ∧ (True ∧ True ∧ True))))) (ls' := #[true, true, true, true, true, true, true, true, true, true, true, true, true, true, true, true, true, true, true, false, true, true, true, true, true, true, true, true, true, true, false, false, false, false, false, false, false, false, false, false]) (Ts' := [(0, .one (.e (.sl 0 0 x1.length))), (1, I i2), (44, B true), (45, .one (.e (.sl 0 0 x1.length))), (46, I i2), (52, I ((x1.getD i2.toNat dnod).parent)), (57, S ((x1.getD i2.toNat dnod).name))]) (st' := ⟨[(0, .one (.e (.sl 0 0 x1.length))), (1, I i2), (44, B true), (45, .one (.e (.sl 0 0 x1.length))), (46, I i2), (52, I ((x1.getD i2.toNat dnod).parent)), (57, S ((x1.getD i2.toNat dnod).name))], [.row .nod x1 false]⟩) (n2 := 11) (by kernel_rfl) ⟨hg65, hg65, trivial, trivial, hg66, hg66, trivial, trivial, trivial⟩ rfl ?_
              refine WD_all [19] (n := 10) (by kernel_rfl) rfl ?_
              refine WM_op (φ := 0 ≤ i2 ∧ i2 ≤ ((x1.length : Nat) : Int)) (v := .one (.e (.sl 0 0 i2.toNat))) (H' := [.row .nod x1 false]) rfl rfl (by kernel_rfl) hg64 rfl (And.intro rfl (trivial)) ?_
              refine WD_all [30] (n := 9) (by kernel_rfl) rfl ?_
              refine WM_call [.view 0] Try.f61 rfl rfl (by kernel_rfl) Try.func61 rfl (by kernel_rfl) (spec_kid_ok n ((x1.drop 0).take i2.toNat) ((x1.getD i2.toNat dnod).parent) ((x1.getD i2.toNat dnod).name) i67 hc68) (trivial) rfl (And.intro rfl (trivial)) ?_
              refine WD_takeK [31, 32, 33] [0, 1, 61] [0, 1, 61] (φ := (True ∧ True ∧ True)) (ls' := #[true, true, true, true, true, true, true, true, true, true, true, true, true, true, true, true, true, true, true, true, true, true, true, true, true, true, true, true, true, true, true, true, true, true, false, false, false, false, false, false]) (Ts' := [(0, .one (.e (.sl 0 0 x1.length))), (1, I i2), (61, B (decide (i67 < 0)))]) (st' := ⟨[(0, .one (.e (.sl 0 0 x1.length))), (1, I i2), (61, B (decide (i67 < 0)))], [.row .nod x1 false]⟩) (n2 := 6) (by kernel_rfl) ⟨trivial, trivial, trivial⟩ rfl ?_
              refine WD_known 61 true rfl rfl hb69 ?_
              refine WD_takeK [34, 35] [61, 62, 63] [61, 62, 63] (φ := True) (ls' := #[true, true, true, true, true, true, true, true, true, true, true, true, true, true, true, true, true, true, true, true, true, true, true, true, true, true, true, true, true, true, true, true, true, true, true, true, false, false, false, false]) (Ts' := [(61, B true), (62, .one (.e (.sl 0 0 x1.length))), (63, I i2)]) (st' := ⟨[(61, B true), (62, .one (.e (.sl 0 0 x1.length))), (63, I i2)], [.row .nod x1 false]⟩) (n2 := 4) (by kernel_rfl) trivial rfl ?_
              refine WD_all [36] (n := 3) (by kernel_rfl) rfl ?_
              refine WM_call [.ro 0] Try.f62 rfl rfl (by kernel_rfl) Try.func62 rfl (by kernel_rfl) (spec_depth_ok n x1 i2 i70 hc71) (And.intro (And.intro rfl rfl) (trivial)) rfl (And.intro rfl (trivial)) ?_
              refine WD_takeK [37, 38, 39] [4] [4] (φ := (True ∧ True ∧ True)) (ls' := #[true, true, true, true, true, true, true, true, true, true, true, true, true, true, true, true, true, true, true, true, true, true, true, true, true, true, true, true, true, true, true, true, true, true, true, true, true, true, true, true]) (Ts' := [(4, B (decide (i70 ≤ 4)))]) (st' := ⟨[(4, B (decide (i70 ≤ 4)))], [.row .nod x1 false]⟩) (n2 := 0) (by kernel_rfl) ⟨trivial, trivial, trivial⟩ rfl ?_
              exact WD_done [0] [4] (st' := ⟨[(4, B (decide (i70 ≤ 4)))], [.row .nod x1 false]⟩) (by kernel_rfl) (by kernel_rfl) (And.intro rfl (by cases hv73; rfl))
            · refine W_draw [] false (by kernel_rfl) (by kernel_rfl) ?_
              refine WD_takeK [0, 1, 2, 3, 4, 5, 6] [0, 1, 32, 34] [0, 1, 32, 34] (φ := ((0 ≤ i2 ∧ i2 < ((x1.length : Nat) : Int)) ∧ (0 ≤ i2 ∧ i2 < ((x1.length : Nat) : Int)) ∧ (True ∧ True ∧ (True ∧ True ∧ True)))) (ls' := #[true, true, true, true, true, true, true, false, false, false, false, false, false, false, false, false, false, false, false, false, false, false, false, false, false, false, false, false, false, false, false, false, false, false, false, false, false, false, false, false]) (Ts' := [(0, .one (.e (.sl 0 0 x1.length))), (1, I i2), (32, I ((x1.getD i2.toNat dnod).parent)), (34, I (w64 (i2 - 1)))]) (st' := ⟨[(0, .one (.e (.sl 0 0 x1.length))), (1, I i2), (32, I ((x1.getD i2.toNat dnod).parent)), (34, I (w64 (i2 - 1)))], [.row .nod x1 false]⟩) (n2 := 33) (by kernel_rfl) ⟨hg58, hg58, trivial, trivial, trivial, trivial, trivial⟩ rfl ?_
              refine WD_all [7] (n := 32) (by kernel_rfl) rfl ?_
              refine WM_call [] Try.f43 rfl rfl (by kernel_rfl) Try.func43 rfl (by kernel_rfl) (spec_inRange_ok ((x1.getD i2.toNat dnod).parent) 0 (w64 (i2 - 1))) (trivial) rfl (And.intro rfl (trivial)) ?_
              refine WD_takeK [8] [0, 1, 36] [0, 1, 36] (φ := True) (ls' := #[true, true, true, true, true, true, true, true, true, false, false, false, false, false, false, false, false, false, false, false, false, false, false, false, false, false, false, false, false, false, false, false, false, false, false, false, false, false, false, false]) (Ts' := [(0, .one (.e (.sl 0 0 x1.length))), (1, I i2), (36, B (spec_inRange ((x1.getD i2.toNat dnod).parent) 0 (w64 (i2 - 1))))]) (st' := ⟨[(0, .one (.e (.sl 0 0 x1.length))), (1, I i2), (36, B (spec_inRange ((x1.getD i2.toNat dnod).parent) 0 (w64 (i2 - 1))))], [.row .nod x1 false]⟩) (n2 := 31) (by kernel_rfl) trivial rfl ?_
              refine WD_known 36 true rfl rfl hb59 ?_
              refine WD_takeK [9, 10, 11, 12, 13] [0, 1, 36, 41] [0, 1, 36, 41] (φ := ((0 ≤ i2 ∧ i2 < ((x1.length : Nat) : Int)) ∧ (0 ≤ i2 ∧ i2 < ((x1.length : Nat) : Int)) ∧ (True ∧ True ∧ True))) (ls' := #[true, true, true, true, true, true, true, true, true, true, true, true, true, true, false, false, false, false, false, false, false, false, false, false, false, false, false, false, false, false, false, false, false, false, false, false, false, false, false, false]) (Ts' := [(0, .one (.e (.sl 0 0 x1.length))), (1, I i2), (36, B true), (41, S ((x1.getD i2.toNat dnod).name))]) (st' := ⟨[(0, .one (.e (.sl 0 0 x1.length))), (1, I i2), (36, B true), (41, S ((x1.getD i2.toNat dnod).name))], [.row .nod x1 false]⟩) (n2 := 26) (by kernel_rfl) ⟨hg60, hg60, trivial, trivial, trivial⟩ rfl ?_
              refine WD_all [14] (n := 25) (by kernel_rfl) rfl ?_
              refine WM_call [] Try.f60 rfl rfl (by kernel_rfl) Try.func60 rfl (by kernel_rfl) (spec_validName_ok n ((x1.getD i2.toNat dnod).name) b61 hc62) (trivial) rfl (And.intro rfl (trivial)) ?_
              refine WD_takeK [15, 16] [0, 1, 44] [0, 1, 44] (φ := True) (ls' := #[true, true, true, true, true, true, true, true, true, true, true, true, true, true, true, true, true, false, false, false, false, false, false, false, false, false, false, false, false, false, false, false, false, false, false, false, false, false, false, false]) (Ts' := [(0, .one (.e (.sl 0 0 x1.length))), (1, I i2), (44, B b61)]) (st' := ⟨[(0, .one (.e (.sl 0 0 x1.length))), (1, I i2), (44, B b61)], [.row .nod x1 false]⟩) (n2 := 23) (by kernel_rfl) trivial rfl ?_
              refine WD_known 44 true rfl rfl hb63 ?_
              refine WD_takeK [17, 18, 20, 21, 22, 23, 24, 25, 26, 27, 28, 29] [0, 1, 44, 45, 46, 52, 57] [0, 1, 44, 45, 46, 52, 57] (φ := ((0 ≤ i2 ∧ i2 < ((x1.length : Nat) : Int)) ∧ (0 ≤ i2 ∧ i2 < ((x1.length : Nat) : Int)) ∧ (True ∧ True ∧ ((0 ≤ i2 ∧ i2 < ((x1.length : Nat) : Int)) ∧ (0 ≤ i2 ∧ i2 < ((x1.length : Nat) : Int)) ∧ (True ∧ True ∧ True))))) (ls' := #[true, true, true, true, true, true, true, true, true, true, true, true, true, true, true, true, true, true, true, false, true, true, true, true, true, true, true, true, true, true, false, false, false, false, false, false, false, false, false, false]) (Ts' := [(0, .one (.e (.sl 0 0 x1.length))), (1, I i2), (44, B true), (45, .one (.e (.sl 0 0 x1.length))), (46, I i2), (52, I ((x1.getD i2.toNat dnod).parent)), (57, S ((x1.getD i2.toNat dnod).name))]) (st' := ⟨[(0, .one (.e (.sl 0 0 x1.length))), (1, I i2), (44, B true), (45, .one (.e (.sl 0 0 x1.length))), (46, I i2), (52, I ((x1.getD i2.toNat dnod).parent)), (57, S ((x1.getD i2.toNat dnod).name))], [.row .nod x1 false]⟩) (n2 := 11) (by kernel_rfl) ⟨hg65, hg65, trivial, trivial, hg66, hg66, trivial, trivial, trivial⟩ rfl ?_
              refine WD_all [19] (n := 10) (by kernel_rfl) rfl ?_
              refine WM_op (φ := 0 ≤ i2 ∧ i2 ≤ ((x1.length : Nat) : Int)) (v := .one (.e (.sl 0 0 i2.toNat))) (H' := [.row .nod x1 false]) rfl rfl (by kernel_rfl) hg64 rfl (And.intro rfl (trivial)) ?_
              refine WD_all [30] (n := 9) (by kernel_rfl) rfl ?_
              refine WM_call [.view 0] Try.f61 rfl rfl (by kernel_rfl) Try.func61 rfl (by kernel_rfl) (spec_kid_ok n ((x1.drop 0).take i2.toNat) ((x1.getD i2.toNat dnod).parent) ((x1.getD i2.toNat dnod).name) i67 hc68) (trivial) rfl (And.intro rfl (trivial)) ?_
              refine WD_takeK [31, 32, 33] [0, 1, 61] [0, 1, 61] (φ := (True ∧ True ∧ True)) (ls' := #[true, true, true, true, true, true, true, true, true, true, true, true, true, true, true, true, true, true, true, true, true, true, true, true, true, true, true, true, true, true, true, true, true, true, false, false, false, false, false, false]) (Ts' := [(0, .one (.e (.sl 0 0 x1.length))), (1, I i2), (61, B (decide (i67 < 0)))]) (st' := ⟨[(0, .one (.e (.sl 0 0 x1.length))), (1, I i2), (61, B (decide (i67 < 0)))], [.row .nod x1 false]⟩) (n2 := 6) (by kernel_rfl) ⟨trivial, trivial, trivial⟩ rfl ?_
              refine WD_known 61 false rfl rfl hb69 ?_
              refine WD_takeK [34, 35, 36, 37, 38, 39] [4] [4] (φ := True) (ls' := #[true, true, true, true, true, true, true, true, true, true, true, true, true, true, true, true, true, true, true, true, true, true, true, true, true, true, true, true, true, true, true, true, true, true, true, true, true, true, true, true]) (Ts' := [(4, B false)]) (st' := ⟨[(4, B false)], [.row .nod x1 false]⟩) (n2 := 0) (by kernel_rfl) trivial rfl ?_
              exact WD_done [0] [4] (st' := ⟨[(4, B false)], [.row .nod x1 false]⟩) (by kernel_rfl) (by kernel_rfl) (And.intro rfl (by cases hv73; rfl))
          · refine W_draw [] false (by kernel_rfl) (by kernel_rfl) ?_
            refine WD_takeK [0, 1, 2, 3, 4, 5, 6] [0, 1, 32, 34] [0, 1, 32, 34] (φ := ((0 ≤ i2 ∧ i2 < ((x1.length : Nat) : Int)) ∧ (0 ≤ i2 ∧ i2 < ((x1.length : Nat) : Int)) ∧ (True ∧ True ∧ (True ∧ True ∧ True)))) (ls' := #[true, true, true, true, true, true, true, false, false, false, false, false, false, false, false, false, false, false, false, false, false, false, false, false, false, false, false, false, false, false, false, false, false, false, false, false, false, false, false, false]) (Ts' := [(0, .one (.e (.sl 0 0 x1.length))), (1, I i2), (32, I ((x1.getD i2.toNat dnod).parent)), (34, I (w64 (i2 - 1)))]) (st' := ⟨[(0, .one (.e (.sl 0 0 x1.length))), (1, I i2), (32, I ((x1.getD i2.toNat dnod).parent)), (34, I (w64 (i2 - 1)))], [.row .nod x1 false]⟩) (n2 := 33) (by kernel_rfl) ⟨hg58, hg58, trivial, trivial, trivial, trivial, trivial⟩ rfl ?_
            refine WD_all [7] (n := 32) (by kernel_rfl) rfl ?_
            refine WM_call [] Try.f43 rfl rfl (by kernel_rfl) Try.func43 rfl (by kernel_rfl) (spec_inRange_ok ((x1.getD i2.toNat dnod).parent) 0 (w64 (i2 - 1))) (trivial) rfl (And.intro rfl (trivial)) ?_
            refine WD_takeK [8] [0, 1, 36] [0, 1, 36] (φ := True) (ls' := #[true, true, true, true, true, true, true, true, true, false, false, false, false, false, false, false, false, false, false, false, false, false, false, false, false, false, false, false, false, false, false, false, false, false, false, false, false, false, false, false]) (Ts' := [(0, .one (.e (.sl 0 0 x1.length))), (1, I i2), (36, B (spec_inRange ((x1.getD i2.toNat dnod).parent) 0 (w64 (i2 - 1))))]) (st' := ⟨[(0, .one (.e (.sl 0 0 x1.length))), (1, I i2), (36, B (spec_inRange ((x1.getD i2.toNat dnod).parent) 0 (w64 (i2 - 1))))], [.row .nod x1 false]⟩) (n2 := 31) (by kernel_rfl) trivial rfl ?_
            refine WD_known 36 true rfl rfl hb59 ?_
            refine WD_takeK [9, 10, 11, 12, 13] [0, 1, 36, 41] [0, 1, 36, 41] (φ := ((0 ≤ i2 ∧ i2 < ((x1.length : Nat) : Int)) ∧ (0 ≤ i2 ∧ i2 < ((x1.length : Nat) : Int)) ∧ (True ∧ True ∧ True))) (ls' := #[true, true, true, true, true, true, true, true, true, true, true, true, true, true, false, false, false, false, false, false, false, false, false, false, false, false, false, false, false, false, false, false, false, false, false, false, false, false, false, false]) (Ts' := [(0, .one (.e (.sl 0 0 x1.length))), (1, I i2), (36, B true), (41, S ((x1.getD i2.toNat dnod).name))]) (st' := ⟨[(0, .one (.e (.sl 0 0 x1.length))), (1, I i2), (36, B true), (41, S ((x1.getD i2.toNat dnod).name))], [.row .nod x1 false]⟩) (n2 := 26) (by kernel_rfl) ⟨hg60, hg60, trivial, trivial, trivial⟩ rfl ?_
            refine WD_all [14] (n := 25) (by kernel_rfl) rfl ?_
            refine WM_call [] Try.f60 rfl rfl (by kernel_rfl) Try.func60 rfl (by kernel_rfl) (spec_validName_ok n ((x1.getD i2.toNat dnod).name) b61 hc62) (trivial) rfl (And.intro rfl (trivial)) ?_
            refine WD_takeK [15, 16] [0, 1, 44] [0, 1, 44] (φ := True) (ls' := #[true, true, true, true, true, true, true, true, true, true, true, true, true, true, true, true, true, false, false, false, false, false, false, false, false, false, false, false, false, false, false, false, false, false, false, false, false, false, false, false]) (Ts' := [(0, .one (.e (.sl 0 0 x1.length))), (1, I i2), (44, B b61)]) (st' := ⟨[(0, .one (.e (.sl 0 0 x1.length))), (1, I i2), (44, B b61)], [.row .nod x1 false]⟩) (n2 := 23) (by kernel_rfl) trivial rfl ?_
            refine WD_known 44 false rfl rfl hb63 ?_
            refine WD_takeK [17, 18, 19, 20, 21, 22, 23, 24, 25, 26, 27, 28, 29, 30, 31, 32, 33, 34, 35, 36, 37, 38, 39] [4] [4] (φ := True) (ls' := #[true, true, true, true, true, true, true, true, true, true, true, true, true, true, true, true, true, true, true, true, true, true, true, true, true, true, true, true, true, true, true, true, true, true, true, true, true, true, true, true]) (Ts' := [(4, B false)]) (st' := ⟨[(4, B false)], [.row .nod x1 false]⟩) (n2 := 0) (by kernel_rfl) trivial rfl ?_
            exact WD_done [0] [4] (st' := ⟨[(4, B false)], [.row .nod x1 false]⟩) (by kernel_rfl) (by kernel_rfl) (And.intro rfl (by cases hv73; rfl))
        · refine W_draw [] false (by kernel_rfl) (by kernel_rfl) ?_
          refine WD_takeK [0, 1, 2, 3, 4, 5, 6] [0, 1, 32, 34] [0, 1, 32, 34] (φ := ((0 ≤ i2 ∧ i2 < ((x1.length : Nat) : Int)) ∧ (0 ≤ i2 ∧ i2 < ((x1.length : Nat) : Int)) ∧ (True ∧ True ∧ (True ∧ True ∧ True)))) (ls' := #[true, true, true, true, true, true, true, false, false, false, false, false, false, false, false, false, false, false, false, false, false, false, false, false, false, false, false, false, false, false, false, false, false, false, false, false, false, false, false, false]) (Ts' := [(0, .one (.e (.sl 0 0 x1.length))), (1, I i2), (32, I ((x1.getD i2.toNat dnod).parent)), (34, I (w64 (i2 - 1)))]) (st' := ⟨[(0, .one (.e (.sl 0 0 x1.length))), (1, I i2), (32, I ((x1.getD i2.toNat dnod).parent)), (34, I (w64 (i2 - 1)))], [.row .nod x1 false]⟩) (n2 := 33) (by kernel_rfl) ⟨hg58, hg58, trivial, trivial, trivial, trivial, trivial⟩ rfl ?_
          refine WD_all [7] (n := 32) (by kernel_rfl) rfl ?_
          refine WM_call [] Try.f43 rfl rfl (by kernel_rfl) Try.func43 rfl (by kernel_rfl) (spec_inRange_ok ((x1.getD i2.toNat dnod).parent) 0 (w64 (i2 - 1))) (trivial) rfl (And.intro rfl (trivial)) ?_
          refine WD_takeK [8] [0, 1, 36] [0, 1, 36] (φ := True) (ls' := #[true, true, true, true, true, true, true, true, true, false, false, false, false, false, false, false, false, false, false, false, false, false, false, false, false, false, false, false, false, false, false, false, false, false, false, false, false, false, false, false]) (Ts' := [(0, .one (.e (.sl 0 0 x1.length))), (1, I i2), (36, B (spec_inRange ((x1.getD i2.toNat dnod).parent) 0 (w64 (i2 - 1))))]) (st' := ⟨[(0, .one (.e (.sl 0 0 x1.length))), (1, I i2), (36, B (spec_inRange ((x1.getD i2.toNat dnod).parent) 0 (w64 (i2 - 1))))], [.row .nod x1 false]⟩) (n2 := 31) (by kernel_rfl) trivial rfl ?_
          refine WD_known 36 false rfl rfl hb59 ?_
          refine WD_takeK [9, 10, 11, 12, 13, 14, 15, 16, 17, 18, 19, 20, 21, 22, 23, 24, 25, 26, 27, 28, 29, 30, 31, 32, 33, 34, 35, 36, 37, 38, 39] [4] [4] (φ := True) (ls' := #[true, true, true, true, true, true, true, true, true, true, true, true, true, true, true, true, true, true, true, true, true, true, true, true, true, true, true, true, true, true, true, true, true, true, true, true, true, true, true, true]) (Ts' := [(4, B false)]) (st' := ⟨[(4, B false)], [.row .nod x1 false]⟩) (n2 := 0) (by kernel_rfl) trivial rfl ?_
          exact WD_done [0] [4] (st' := ⟨[(4, B false)], [.row .nod x1 false]⟩) (by kernel_rfl) (by kernel_rfl) (And.intro rfl (by cases hv73; rfl))
      · rintro _ _ ⟨rfl, rfl⟩
        refine thenS_n ?_
        refine W_ret ?_
        cases h
        exact ⟨[0], True, by kernel_rfl, trivial⟩

/- spec.validTree -/
def spec_validTree_L1 (x1 : List Nod) : Nat → Int → Option ((Unit) ⊕ (Unit))
| 0, _ => none
| n + 1, i52 =>
 iteO (decide (i52 < ((x1.length : Nat) : Int)))
 (bindO (spec_validNode n x1 i52) fun b71 =>
 iteO (!b71)
 (some (.inl ()))
 (spec_validTree_L1 x1 n (w64 (i52 + 1))))
 (some (.inr ()))

theorem spec_validTree_L1_ok (w : World) (X : Nat → Prop) (θ : List Loc) (x1 : List Nod) (v : (Unit) ⊕ (Unit)) : ∀ (n : Nat) (i52 : Int), spec_validTree_L1 x1 n i52 = some v → WL EE ⟨w, X, θ, 17, 1⟩ (subC [1, 0, 1, 4, 4] (bodyC Try.f21)) (fun (e : Exit) (s : St) => (match v with | (.inl _) => e = .ret ∧ s = ⟨[(2, B false)], [.row .nod x1 false]⟩ | (.inr _) => e = .exit 0 ∧ s = ⟨[(0, .one (.e (.sl 0 0 x1.length)))], [.row .nod x1 false]⟩ : Prop)) ⟨[(0, .one (.e (.sl 0 0 x1.length))), (3, I i52)], [.row .nod x1 false]⟩ := by
  intro n
  induction n with
  | zero => intro _ h; exact none_e h
  | succ n ih =>
    intro i52 h
    rw [spec_validTree_L1] at h
    refine WL_round ?_
    refine W_seq ?_
    refine W_seq ?_
    refine W_region ?_
    refine WO_step 4 [0] [0, 3, 7] (True ∧ (True ∧ True)) ⟨[(0, .one (.e (.sl 0 0 x1.length))), (3, I i52), (7, B (decide (i52 < ((x1.length : Nat) : Int))))], [.row .nod x1 false]⟩ (by kernel_rfl) ⟨trivial, trivial, trivial⟩ ?_
    refine WO_nil rfl ?_
    refine thenS_n ?_
    refine iteO_e h (fun hb66 h => W_true rfl hb66 ?_) (fun hb66 h => W_false rfl hb66 ?_)
    · refine W_sub [0] [0, 3] (st' := ⟨[(0, .one (.e (.sl 0 0 x1.length))), (3, I i52)], [.row .nod x1 false]⟩) (by kernel_rfl) ?_
      refine W_skip ?_
      refine thenS_n ?_
      refine W_seq ?_
      refine W_block ?_
      refine W_seq ?_
      refine W_region ?_
      refine WO_step 2 [0] [0, 3, 10, 11] True ⟨[(0, .one (.e (.sl 0 0 x1.length))), (3, I i52), (10, .one (.e (.sl 0 0 x1.length))), (11, I i52)], [.row .nod x1 false]⟩ (by kernel_rfl) trivial ?_
      refine bindO_e h (fun b71 hc72 h => ?_)
      refine WO_call [.ro 0] Try.f42 rfl rfl rfl (by kernel_rfl) Try.func42 rfl (by kernel_rfl) (spec_validNode_ok n x1 i52 b71 hc72) (And.intro (And.intro rfl rfl) (trivial)) rfl ?_
      refine WO_step 1 [0] [0, 3, 13] True ⟨[(0, .one (.e (.sl 0 0 x1.length))), (3, I i52), (13, B (!b71))], [.row .nod x1 false]⟩ (by kernel_rfl) trivial ?_
      refine WO_nil rfl ?_
      refine thenS_n ?_
      refine iteO_e h (fun hb74 h => W_true rfl hb74 ?_) (fun hb74 h => W_false rfl hb74 ?_)
      · refine W_seq ?_
        refine W_region ?_
        refine WO_step 1 [0] [2] True ⟨[(2, B false)], [.row .nod x1 false]⟩ (by kernel_rfl) trivial ?_
        refine WO_nil rfl ?_
        refine thenS_n ?_
        refine W_ret ?_
        refine blockS_r ?_
        refine thenS_r ?_
        refine thenS_r ?_
        cases h
        exact And.intro rfl rfl
      · refine W_sub [0] [0, 3] (st' := ⟨[(0, .one (.e (.sl 0 0 x1.length))), (3, I i52)], [.row .nod x1 false]⟩) (by kernel_rfl) ?_
        refine W_skip ?_
        refine blockS_n ?_
        refine thenS_n ?_
        refine W_region ?_
        refine WO_step 3 [0] [0, 3] (True ∧ True) ⟨[(0, .one (.e (.sl 0 0 x1.length))), (3, I (w64 (i52 + 1)))], [.row .nod x1 false]⟩ (by kernel_rfl) ⟨trivial, trivial⟩ ?_
        refine WO_nil rfl ?_
        refine thenS_n ?_
        exact ih _ h
    · refine W_sub [0] [0] (st' := ⟨[(0, .one (.e (.sl 0 0 x1.length)))], [.row .nod x1 false]⟩) (by kernel_rfl) ?_
      refine W_exit ?_
      refine thenS_e ?_
      refine thenS_e ?_
      cases h
      exact And.intro rfl rfl

def spec_validTree (n : Nat) (x1 : List Nod) : Option (Bool) :=
 bindO (spec_validTree_L1 x1 n 0) fun v75 =>
 match v75 with
 | (.inl _) => (some false)
 | (.inr _) => (some (spec_inRange ((x1.length : Nat) : Int) 1 12))


theorem spec_validTree_ok (n : Nat) (x1 : List Nod) (b38 : Bool) (h : spec_validTree n x1 = some b38) : FOk EE 21 [.one (.e (.sl 0 0 x1.length))] [.row .nod x1 false] (B b38) [.row .nod x1 false] := by
  unfold spec_validTree at h
  refine FOk_of_W 17 1 Try.func21 rfl rfl (Nat.le_of_ble_eq_true rfl) rfl (fun w X θ => ?_)
  refine W_seq ?_
  refine W_region ?_
  refine WO_step 1 [0] [0] True ⟨[(0, .one (.e (.sl 0 0 x1.length)))], [.row .nod x1 false]⟩ (by kernel_rfl) trivial ?_
  refine WO_nil rfl ?_
  refine thenS_n ?_
  refine W_seq ?_
  refine W_seq ?_
  refine W_region ?_
  refine WO_step 1 [0] [0, 3] True ⟨[(0, .one (.e (.sl 0 0 x1.length))), (3, I 0)], [.row .nod x1 false]⟩ (by kernel_rfl) trivial ?_
  refine WO_nil rfl ?_
  refine thenS_n ?_
  refine W_block ?_
  refine W_loop ?_
  refine bindO_e h (fun v75 hv75 h => ?_)
  refine WL_cut (spec_validTree_L1_ok w X θ x1 v75 n 0 hv75) ?_
  rcases v75 with _ | _
  · rintro _ _ ⟨rfl, rfl⟩
    refine blockS_r ?_
    refine thenS_r ?_
    cases h
    exact ⟨[0], True, by kernel_rfl, trivial⟩
  · rintro _ _ ⟨rfl, rfl⟩
    refine blockS_y ?_
    refine thenS_n ?_
    refine W_seq ?_
    refine W_region ?_
    refine WO_step 2 [0] [15] (True ∧ True) ⟨[(15, I ((x1.length : Nat) : Int))], [.row .nod x1 false]⟩ (by kernel_rfl) ⟨trivial, trivial⟩ ?_
    refine WO_call [] Try.f43 rfl rfl rfl (by kernel_rfl) Try.func43 rfl (by kernel_rfl) (spec_inRange_ok ((x1.length : Nat) : Int) 1 12) (trivial) rfl ?_
    refine WO_step 1 [0] [2] True ⟨[(2, B (spec_inRange ((x1.length : Nat) : Int) 1 12))], [.row .nod x1 false]⟩ (by kernel_rfl) trivial ?_
    refine WO_nil rfl ?_
    refine thenS_n ?_
    refine W_ret ?_
    cases h
    exact ⟨[0], True, by kernel_rfl, trivial⟩

/- spec.kids -/
def spec_kids_L1 (x1 : List Nod) (i2 : Int) : Nat → (List Int) → Int → Option ((List Int))
| 0, _, _ => none
| n + 1, x68, i69 =>
 iteO (decide (i69 < ((x1.length : Nat) : Int)))
 (guardO (0 ≤ i69 ∧ i69 < ((x1.length : Nat) : Int)) <|
 bindO (iteO (decide (((x1.getD i69.toNat dnod).parent) = i2))
 (guardO (0 = 0 ∧ x68.length = x68.length ∧ x68.length + (([i69].drop 0).take ([i69].length)).length ≤ 1099511627776) <|
 some (x68 ++ (([i69].drop 0).take ([i69].length))))
 (some x68)) fun x96 =>
 spec_kids_L1 x1 i2 n x96 (w64 (i69 + 1)))
 (some x68)

theorem spec_kids_L1_ok (w : World) (X : Nat → Prop) (θ : List Loc) (x1 : List Nod) (i2 : Int) (x84 : (List Int)) : ∀ (n : Nat) (x68 : List Int) (i69 : Int), spec_kids_L1 x1 i2 n x68 i69 = some x84 → WL EE ⟨w, X, θ, 26, 1⟩ (subC [1, 1, 0, 1, 4, 4] (bodyC Try.f44)) (fun (e : Exit) (s : St) => e = .exit 0 ∧ s = ⟨[(5, .one (.e (.sl 1 0 x84.length)))], [.row .nod x1 false, .row .int x84 true]⟩) ⟨[(0, .one (.e (.sl 0 0 x1.length))), (1, I i2), (5, .one (.e (.sl 1 0 x68.length))), (6, I i69)], [.row .nod x1 false, .row .int x68 true]⟩ := by
  intro n
  induction n with
  | zero => intro _ _ h; exact none_e h
  | succ n ih =>
    intro x68 i69 h
    rw [spec_kids_L1] at h
    refine WL_round ?_
    refine W_seq ?_
    refine W_seq ?_
    refine W_region ?_
    refine WO_step 4 [0, 1] [0, 1, 5, 6, 11] (True ∧ (True ∧ True)) ⟨[(0, .one (.e (.sl 0 0 x1.length))), (1, I i2), (5, .one (.e (.sl 1 0 x68.length))), (6, I i69), (11, B (decide (i69 < ((x1.length : Nat) : Int))))], [.row .nod x1 false, .row .int x68 true]⟩ (by kernel_rfl) ⟨trivial, trivial, trivial⟩ ?_
    refine WO_nil rfl ?_
    refine thenS_n ?_
    refine iteO_e h (fun hb87 h => W_true rfl hb87 ?_) (fun hb87 h => W_false rfl hb87 ?_)
    · refine W_sub [0, 1] [0, 1, 5, 6] (st' := ⟨[(0, .one (.e (.sl 0 0 x1.length))), (1, I i2), (5, .one (.e (.sl 1 0 x68.length))), (6, I i69)], [.row .nod x1 false, .row .int x68 true]⟩) (by kernel_rfl) ?_
      refine W_skip ?_
      refine thenS_n ?_
      refine W_seq ?_
      refine W_block ?_
      refine W_seq ?_
      refine W_region ?_
      refine guardO_e h (fun hg93 h => ?_)
      refine WO_step 7 [0, 1] [0, 1, 5, 6, 20] ((0 ≤ i69 ∧ i69 < ((x1.length : Nat) : Int)) ∧ (True ∧ (True ∧ True))) ⟨[(0, .one (.e (.sl 0 0 x1.length))), (1, I i2), (5, .one (.e (.sl 1 0 x68.length))), (6, I i69), (20, B (decide (((x1.getD i69.toNat dnod).parent) = i2)))], [.row .nod x1 false, .row .int x68 true]⟩ (by kernel_rfl) ⟨hg93, trivial, trivial, trivial⟩ ?_
      refine WO_nil rfl ?_
      refine thenS_n ?_
      refine bindO_e h (fun x96 hx96 h => ?_)
      refine W_cut (Q' := fun (e : Exit) (s : St) => e = .normal ∧ s = ⟨[(0, .one (.e (.sl 0 0 x1.length))), (1, I i2), (5, .one (.e (.sl 1 0 x96.length))), (6, I i69)], [.row .nod x1 false, .row .int x96 true]⟩) ?_ ?_
      · refine iteO_e hx96 (fun hb98 hx96 => W_true rfl hb98 ?_) (fun hb98 hx96 => W_false rfl hb98 ?_)
        · refine W_region ?_
          refine guardO_e hx96 (fun hg99 hx96 => ?_)
          refine WO_step 5 [0, 3] [0, 1, 5, 6] ((0 = 0 ∧ x68.length = x68.length ∧ x68.length + (([i69].drop 0).take ([i69].length)).length ≤ 1099511627776) ∧ True) ⟨[(0, .one (.e (.sl 0 0 x1.length))), (1, I i2), (5, .one (.e (.sl 1 0 ((x68 ++ (([i69].drop 0).take ([i69].length))).length)))), (6, I i69)], [.row .nod x1 false, .row .int (x68 ++ (([i69].drop 0).take ([i69].length))) true]⟩ (by kernel_rfl) ⟨hg99, trivial⟩ ?_
          refine WO_nil rfl ?_
          cases hx96
          exact And.intro rfl rfl
        · refine W_sub [0, 1] [0, 1, 5, 6] (st' := ⟨[(0, .one (.e (.sl 0 0 x1.length))), (1, I i2), (5, .one (.e (.sl 1 0 x68.length))), (6, I i69)], [.row .nod x1 false, .row .int x68 true]⟩) (by kernel_rfl) ?_
          refine W_skip ?_
          cases hx96
          exact And.intro rfl rfl
      · rintro _ _ ⟨rfl, rfl⟩
        refine blockS_n ?_
        refine thenS_n ?_
        refine W_region ?_
        refine WO_step 3 [0, 1] [0, 1, 5, 6] (True ∧ True) ⟨[(0, .one (.e (.sl 0 0 x1.length))), (1, I i2), (5, .one (.e (.sl 1 0 x96.length))), (6, I (w64 (i69 + 1)))], [.row .nod x1 false, .row .int x96 true]⟩ (by kernel_rfl) ⟨trivial, trivial⟩ ?_
        refine WO_nil rfl ?_
        refine thenS_n ?_
        exact ih _ _ h
    · refine W_sub [0, 1] [5] (st' := ⟨[(5, .one (.e (.sl 1 0 x68.length)))], [.row .nod x1 false, .row .int x68 true]⟩) (by kernel_rfl) ?_
      refine W_exit ?_
      refine thenS_e ?_
      refine thenS_e ?_
      cases h
      exact And.intro rfl rfl

def spec_kids (n : Nat) (x1 : List Nod) (i2 : Int) : Option ((List Int)) :=
 bindO (spec_kids_L1 x1 i2 n ([] : List Int) 1) fun x84 =>
 some x84

theorem spec_kids_ok (n : Nat) (x1 : List Nod) (i2 : Int) (x49 : List Int) (h : spec_kids n x1 i2 = some x49) : FOk EE 44 [.one (.e (.sl 0 0 x1.length)), I i2] [.row .nod x1 false] (.one (.e (.sl 1 0 x49.length))) [.row .nod x1 false, .row .int x49 true] := by
  unfold spec_kids at h
  refine FOk_of_W 26 1 Try.func44 rfl rfl (Nat.le_of_ble_eq_true rfl) rfl (fun w X θ => ?_)
  refine W_seq ?_
  refine W_region ?_
  refine WO_step 1 [0] [0, 1] True ⟨[(0, .one (.e (.sl 0 0 x1.length))), (1, I i2)], [.row .nod x1 false]⟩ (by kernel_rfl) trivial ?_
  refine WO_nil rfl ?_
  refine thenS_n ?_
  refine W_seq ?_
  refine W_region ?_
  refine WO_step 2 [0, 1] [0, 1, 5] True ⟨[(0, .one (.e (.sl 0 0 x1.length))), (1, I i2), (5, .one (.e (.sl 1 0 (([] : List Int).length))))], [.row .nod x1 false, .row .int ([] : List Int) true]⟩ (by kernel_rfl) trivial ?_
  refine WO_nil rfl ?_
  refine thenS_n ?_
  refine W_seq ?_
  refine W_seq ?_
  refine W_region ?_
  refine WO_step 1 [0, 1] [0, 1, 5, 6] True ⟨[(0, .one (.e (.sl 0 0 x1.length))), (1, I i2), (5, .one (.e (.sl 1 0 (([] : List Int).length)))), (6, I 1)], [.row .nod x1 false, .row .int ([] : List Int) true]⟩ (by kernel_rfl) trivial ?_
  refine WO_nil rfl ?_
  refine thenS_n ?_
  refine W_block ?_
  refine W_loop ?_
  refine bindO_e h (fun x84 hx84 h => ?_)
  refine WL_cut (spec_kids_L1_ok w X θ x1 i2 x84 n ([] : List Int) 1 hx84) ?_
  rintro _ _ ⟨rfl, rfl⟩
  refine blockS_y ?_
  refine thenS_n ?_
  refine W_seq ?_
  refine W_region ?_
  refine WO_step 2 [0, 1] [4] True ⟨[(4, .one (.e (.sl 1 0 x84.length)))], [.row .nod x1 false, .row .int x84 true]⟩ (by kernel_rfl) trivial ?_
  refine WO_nil rfl ?_
  refine thenS_n ?_
  refine W_ret ?_
  cases h
  exact ⟨[0, 1], True, by kernel_rfl, trivial⟩

/- spec.walk -/
def spec_walk_L2 (rec : (List Nod) → Int → Option ((List Int))) (x1 : List Nod) (i2 : Int) (i463 : Int) : Nat → (List Int) → Int → Option ((List Int))
| 0, _, _ => none
| n + 1, x633, i634 =>
 bindO (iteO (decide (0 < i634))
 (guardO (0 ≤ i634 ∧ i634 < ((x633.length : Nat) : Int)) <|
 guardO (0 ≤ (x633.getD i634.toNat 0) ∧ (x633.getD i634.toNat 0) < ((x1.length : Nat) : Int)) <|
 guardO (0 ≤ (w64 (i634 - 1)) ∧ (w64 (i634 - 1)) < ((x633.length : Nat) : Int)) <|
 guardO (0 ≤ (x633.getD ((w64 (i634 - 1)).toNat) 0) ∧ (x633.getD ((w64 (i634 - 1)).toNat) 0) < ((x1.length : Nat) : Int)) <|
 some (Op.bytesLess ((x1.getD ((x633.getD i634.toNat 0).toNat) dnod).name) ((x1.getD ((x633.getD ((w64 (i634 - 1)).toNat) 0).toNat) dnod).name)))
 (some false)) fun b661 =>
 iteO b661
 (guardO (0 ≤ i634 ∧ i634 < ((x633.length : Nat) : Int)) <|
 guardO (0 ≤ (w64 (i634 - 1)) ∧ (w64 (i634 - 1)) < ((x633.length : Nat) : Int)) <|
 guardO (0 ≤ i634 ∧ i634 < ((x633.length : Nat) : Int)) <|
 guardO (0 ≤ (w64 (i634 - 1)) ∧ (w64 (i634 - 1)) < (((x633.set i634.toNat (x633.getD ((w64 (i634 - 1)).toNat) 0)).length : Nat) : Int)) <|
 spec_walk_L2 rec x1 i2 i463 n ((x633.set i634.toNat (x633.getD ((w64 (i634 - 1)).toNat) 0)).set ((w64 (i634 - 1)).toNat) (x633.getD i634.toNat 0)) (w64 (i634 - 1)))
 (some x633)

theorem spec_walk_L2_ok (rec : (List Nod) → Int → Option ((List Int))) (hrec : ∀ (x1 : List Nod) (i2 : Int) (x3 : List Int), rec x1 i2 = some x3 → FOk EE 22 [.one (.e (.sl 0 0 x1.length)), I i2] [.row .nod x1 false] (.one (.e (.sl 1 0 x3.length))) [.row .nod x1 false, .row .int x3 true]) (w : World) (X : Nat → Prop) (θ : List Loc) (x1 : List Nod) (i2 : Int) (i463 : Int) (x654 : (List Int)) : ∀ (n : Nat) (x633 : List Int) (i634 : Int), spec_walk_L2 rec x1 i2 i463 n x633 i634 = some x654 → WL EE ⟨w, X, θ, 79, 1⟩ (subC [1, 1, 1, 0, 1, 4, 4, 1, 0, 4, 1, 4, 4] (bodyC Try.f22)) (fun (e : Exit) (s : St) => e = .exit 2 ∧ s = ⟨[(0, .one (.e (.sl 0 0 x1.length))), (5, .one (.e (.sl 1 0 ([i2].length)))), (6, .one (.e (.sl 2 0 x654.length))), (7, I i463)], [.row .nod x1 false, .row .int [i2] true, .row .int x654 true]⟩) ⟨[(0, .one (.e (.sl 0 0 x1.length))), (5, .one (.e (.sl 1 0 ([i2].length)))), (6, .one (.e (.sl 2 0 x633.length))), (7, I i463), (8, I i634)], [.row .nod x1 false, .row .int [i2] true, .row .int x633 true]⟩ := by
  intro n
  induction n with
  | zero => intro _ _ h; exact none_e h
  | succ n ih =>
    intro x633 i634 h
    rw [spec_walk_L2] at h
    refine WL_round ?_
    refine W_seq ?_
    refine W_seq ?_
    refine bindO_e h (fun b661 hv662 h => ?_)
    refine W_cut (Q' := fun (e : Exit) (s : St) => e = .normal ∧ s = ⟨[(0, .one (.e (.sl 0 0 x1.length))), (5, .one (.e (.sl 1 0 ([i2].length)))), (6, .one (.e (.sl 2 0 x633.length))), (7, I i463), (8, I i634), (44, B b661)], [.row .nod x1 false, .row .int [i2] true, .row .int x633 true]⟩) ?_ ?_
    · refine iteO_e hv662 (fun hb656 hv662 => ?_) (fun hb656 hv662 => ?_)
      · refine guardO_e hv662 (fun hg657 hv662 => ?_)
        refine guardO_e hv662 (fun hg658 hv662 => ?_)
        refine guardO_e hv662 (fun hg659 hv662 => ?_)
        refine guardO_e hv662 (fun hg660 hv662 => ?_)
        refine W_draw [] true (by kernel_rfl) (by kernel_rfl) ?_
        refine WD_takeK [0, 1, 2] [0, 5, 6, 7, 8, 25] [0, 5, 6, 7, 8, 25] (φ := (True ∧ True ∧ True)) (ls' := #[true, true, true, false, false, false, false, false, false, false, false, false, false, false, false, false, false, false, false, false, false, false]) (Ts' := [(0, .one (.e (.sl 0 0 x1.length))), (5, .one (.e (.sl 1 0 ([i2].length)))), (6, .one (.e (.sl 2 0 x633.length))), (7, I i463), (8, I i634), (25, B (decide (0 < i634)))]) (st' := ⟨[(0, .one (.e (.sl 0 0 x1.length))), (5, .one (.e (.sl 1 0 ([i2].length)))), (6, .one (.e (.sl 2 0 x633.length))), (7, I i463), (8, I i634), (25, B (decide (0 < i634)))], [.row .nod x1 false, .row .int [i2] true, .row .int x633 true]⟩) (n2 := 19) (by kernel_rfl) ⟨trivial, trivial, trivial⟩ rfl ?_
        refine WD_known 25 true rfl rfl hb656 ?_
        refine WD_takeK [3, 4, 5, 6, 7, 8, 9, 10, 11, 12, 13, 14, 15, 16, 17, 18, 19, 20, 21] [0, 5, 6, 7, 8, 44] [0, 5, 6, 7, 8, 44] (φ := ((0 ≤ i634 ∧ i634 < ((x633.length : Nat) : Int)) ∧ (0 ≤ i634 ∧ i634 < ((x633.length : Nat) : Int)) ∧ (True ∧ True ∧ ((0 ≤ (x633.getD i634.toNat 0) ∧ (x633.getD i634.toNat 0) < ((x1.length : Nat) : Int)) ∧ (0 ≤ (x633.getD i634.toNat 0) ∧ (x633.getD i634.toNat 0) < ((x1.length : Nat) : Int)) ∧ (True ∧ True ∧ (True ∧ True ∧ ((0 ≤ (w64 (i634 - 1)) ∧ (w64 (i634 - 1)) < ((x633.length : Nat) : Int)) ∧ (0 ≤ (w64 (i634 - 1)) ∧ (w64 (i634 - 1)) < ((x633.length : Nat) : Int)) ∧ (True ∧ True ∧ ((0 ≤ (x633.getD ((w64 (i634 - 1)).toNat) 0) ∧ (x633.getD ((w64 (i634 - 1)).toNat) 0) < ((x1.length : Nat) : Int)) ∧ (0 ≤ (x633.getD ((w64 (i634 - 1)).toNat) 0) ∧ (x633.getD ((w64 (i634 - 1)).toNat) 0) < ((x1.length : Nat) : Int)) ∧ (True ∧ True ∧ (True ∧ True ∧ True))))))))))) (ls' := #[true, true, true, true, true, true, true, true, true, true, true, true, true, true, true, true, true, true, true, true, true, true]) (Ts' := [(0, .one (.e (.sl 0 0 x1.length))), (5, .one (.e (.sl 1 0 ([i2].length)))), (6, .one (.e (.sl 2 0 x633.length))), (7, I i463), (8, I i634), (44, B (Op.bytesLess ((x1.getD ((x633.getD i634.toNat 0).toNat) dnod).name) ((x1.getD ((x633.getD ((w64 (i634 - 1)).toNat) 0).toNat) dnod).name)))]) (st' := ⟨[(0, .one (.e (.sl 0 0 x1.length))), (5, .one (.e (.sl 1 0 ([i2].length)))), (6, .one (.e (.sl 2 0 x633.length))), (7, I i463), (8, I i634), (44, B (Op.bytesLess ((x1.getD ((x633.getD i634.toNat 0).toNat) dnod).name) ((x1.getD ((x633.getD ((w64 (i634 - 1)).toNat) 0).toNat) dnod).name)))], [.row .nod x1 false, .row .int [i2] true, .row .int x633 true]⟩) (n2 := 0) (by kernel_rfl) ⟨hg657, hg657, trivial, trivial, hg658, hg658, trivial, trivial, trivial, trivial, hg659, hg659, trivial, trivial, hg660, hg660, trivial, trivial, trivial, trivial, trivial⟩ rfl ?_
        exact WD_done [0, 1, 2] [0, 5, 6, 7, 8, 44] (st' := ⟨[(0, .one (.e (.sl 0 0 x1.length))), (5, .one (.e (.sl 1 0 ([i2].length)))), (6, .one (.e (.sl 2 0 x633.length))), (7, I i463), (8, I i634), (44, B (Op.bytesLess ((x1.getD ((x633.getD i634.toNat 0).toNat) dnod).name) ((x1.getD ((x633.getD ((w64 (i634 - 1)).toNat) 0).toNat) dnod).name)))], [.row .nod x1 false, .row .int [i2] true, .row .int x633 true]⟩) (by kernel_rfl) (by kernel_rfl) (And.intro rfl (by cases hv662; rfl))
      · refine W_draw [] true (by kernel_rfl) (by kernel_rfl) ?_
        refine WD_takeK [0, 1, 2] [0, 5, 6, 7, 8, 25] [0, 5, 6, 7, 8, 25] (φ := (True ∧ True ∧ True)) (ls' := #[true, true, true, false, false, false, false, false, false, false, false, false, false, false, false, false, false, false, false, false, false, false]) (Ts' := [(0, .one (.e (.sl 0 0 x1.length))), (5, .one (.e (.sl 1 0 ([i2].length)))), (6, .one (.e (.sl 2 0 x633.length))), (7, I i463), (8, I i634), (25, B (decide (0 < i634)))]) (st' := ⟨[(0, .one (.e (.sl 0 0 x1.length))), (5, .one (.e (.sl 1 0 ([i2].length)))), (6, .one (.e (.sl 2 0 x633.length))), (7, I i463), (8, I i634), (25, B (decide (0 < i634)))], [.row .nod x1 false, .row .int [i2] true, .row .int x633 true]⟩) (n2 := 19) (by kernel_rfl) ⟨trivial, trivial, trivial⟩ rfl ?_
        refine WD_known 25 false rfl rfl hb656 ?_
        refine WD_takeK [3, 4, 5, 6, 7, 8, 9, 10, 11, 12, 13, 14, 15, 16, 17, 18, 19, 20, 21] [0, 5, 6, 7, 8, 44] [0, 5, 6, 7, 8, 44] (φ := True) (ls' := #[true, true, true, true, true, true, true, true, true, true, true, true, true, true, true, true, true, true, true, true, true, true]) (Ts' := [(0, .one (.e (.sl 0 0 x1.length))), (5, .one (.e (.sl 1 0 ([i2].length)))), (6, .one (.e (.sl 2 0 x633.length))), (7, I i463), (8, I i634), (44, B false)]) (st' := ⟨[(0, .one (.e (.sl 0 0 x1.length))), (5, .one (.e (.sl 1 0 ([i2].length)))), (6, .one (.e (.sl 2 0 x633.length))), (7, I i463), (8, I i634), (44, B false)], [.row .nod x1 false, .row .int [i2] true, .row .int x633 true]⟩) (n2 := 0) (by kernel_rfl) trivial rfl ?_
        exact WD_done [0, 1, 2] [0, 5, 6, 7, 8, 44] (st' := ⟨[(0, .one (.e (.sl 0 0 x1.length))), (5, .one (.e (.sl 1 0 ([i2].length)))), (6, .one (.e (.sl 2 0 x633.length))), (7, I i463), (8, I i634), (44, B false)], [.row .nod x1 false, .row .int [i2] true, .row .int x633 true]⟩) (by kernel_rfl) (by kernel_rfl) (And.intro rfl (by cases hv662; rfl))
    · rintro _ _ ⟨rfl, rfl⟩
      refine thenS_n ?_
      refine iteO_e h (fun hb664 h => W_true rfl hb664 ?_) (fun hb664 h => W_false rfl hb664 ?_)
      · refine W_sub [0, 1, 2] [0, 5, 6, 7, 8] (st' := ⟨[(0, .one (.e (.sl 0 0 x1.length))), (5, .one (.e (.sl 1 0 ([i2].length)))), (6, .one (.e (.sl 2 0 x633.length))), (7, I i463), (8, I i634)], [.row .nod x1 false, .row .int [i2] true, .row .int x633 true]⟩) (by kernel_rfl) ?_
        refine W_skip ?_
        refine thenS_n ?_
        refine W_seq ?_
        refine W_block ?_
        refine W_seq ?_
        refine W_region ?_
        refine guardO_e h (fun hg669 h => ?_)
        refine WO_step 5 [0, 1, 2] [0, 5, 6, 7, 8, 9] ((0 ≤ i634 ∧ i634 < ((x633.length : Nat) : Int)) ∧ (True ∧ True)) ⟨[(0, .one (.e (.sl 0 0 x1.length))), (5, .one (.e (.sl 1 0 ([i2].length)))), (6, .one (.e (.sl 2 0 x633.length))), (7, I i463), (8, I i634), (9, I (x633.getD i634.toNat 0))], [.row .nod x1 false, .row .int [i2] true, .row .int x633 true]⟩ (by kernel_rfl) ⟨hg669, trivial, trivial⟩ ?_
        refine WO_nil rfl ?_
        refine thenS_n ?_
        refine W_seq ?_
        refine W_region ?_
        refine guardO_e h (fun hg670 h => ?_)
        refine guardO_e h (fun hg671 h => ?_)
        refine WO_step 9 [0, 1, 2] [0, 5, 6, 7, 8, 9] (True ∧ ((0 ≤ (w64 (i634 - 1)) ∧ (w64 (i634 - 1)) < ((x633.length : Nat) : Int)) ∧ (True ∧ ((0 ≤ i634 ∧ i634 < ((x633.length : Nat) : Int)) ∧ (True ∧ True))))) ⟨[(0, .one (.e (.sl 0 0 x1.length))), (5, .one (.e (.sl 1 0 ([i2].length)))), (6, .one (.e (.sl 2 0 x633.length))), (7, I i463), (8, I i634), (9, I (x633.getD i634.toNat 0))], [.row .nod x1 false, .row .int [i2] true, .row .int (x633.set i634.toNat (x633.getD ((w64 (i634 - 1)).toNat) 0)) true]⟩ (by kernel_rfl) ⟨trivial, hg670, trivial, hg671, trivial, trivial⟩ ?_
        refine WO_eq (st' := ⟨[(0, .one (.e (.sl 0 0 x1.length))), (5, .one (.e (.sl 1 0 ([i2].length)))), (6, .one (.e (.sl 2 0 ((x633.set i634.toNat (x633.getD ((w64 (i634 - 1)).toNat) 0)).length)))), (7, I i463), (8, I i634), (9, I (x633.getD i634.toNat 0))], [.row .nod x1 false, .row .int [i2] true, .row .int (x633.set i634.toNat (x633.getD ((w64 (i634 - 1)).toNat) 0)) true]⟩) (by simp only [List.length_set]) ?_
        refine WO_nil rfl ?_
        refine thenS_n ?_
        refine W_region ?_
        refine guardO_e h (fun hg672 h => ?_)
        refine WO_step 6 [0, 1, 2] [0, 5, 6, 7, 8] (True ∧ ((0 ≤ (w64 (i634 - 1)) ∧ (w64 (i634 - 1)) < (((x633.set i634.toNat (x633.getD ((w64 (i634 - 1)).toNat) 0)).length : Nat) : Int)) ∧ (True ∧ True))) ⟨[(0, .one (.e (.sl 0 0 x1.length))), (5, .one (.e (.sl 1 0 ([i2].length)))), (6, .one (.e (.sl 2 0 ((x633.set i634.toNat (x633.getD ((w64 (i634 - 1)).toNat) 0)).length)))), (7, I i463), (8, I i634)], [.row .nod x1 false, .row .int [i2] true, .row .int ((x633.set i634.toNat (x633.getD ((w64 (i634 - 1)).toNat) 0)).set ((w64 (i634 - 1)).toNat) (x633.getD i634.toNat 0)) true]⟩ (by kernel_rfl) ⟨trivial, hg672, trivial, trivial⟩ ?_
        refine WO_eq (st' := ⟨[(0, .one (.e (.sl 0 0 x1.length))), (5, .one (.e (.sl 1 0 ([i2].length)))), (6, .one (.e (.sl 2 0 (((x633.set i634.toNat (x633.getD ((w64 (i634 - 1)).toNat) 0)).set ((w64 (i634 - 1)).toNat) (x633.getD i634.toNat 0)).length)))), (7, I i463), (8, I i634)], [.row .nod x1 false, .row .int [i2] true, .row .int ((x633.set i634.toNat (x633.getD ((w64 (i634 - 1)).toNat) 0)).set ((w64 (i634 - 1)).toNat) (x633.getD i634.toNat 0)) true]⟩) (by simp only [List.length_set]) ?_
        refine WO_nil rfl ?_
        refine blockS_n ?_
        refine thenS_n ?_
        refine W_region ?_
        refine WO_step 3 [0, 1, 2] [0, 5, 6, 7, 8] (True ∧ True) ⟨[(0, .one (.e (.sl 0 0 x1.length))), (5, .one (.e (.sl 1 0 ([i2].length)))), (6, .one (.e (.sl 2 0 (((x633.set i634.toNat (x633.getD ((w64 (i634 - 1)).toNat) 0)).set ((w64 (i634 - 1)).toNat) (x633.getD i634.toNat 0)).length)))), (7, I i463), (8, I (w64 (i634 - 1)))], [.row .nod x1 false, .row .int [i2] true, .row .int ((x633.set i634.toNat (x633.getD ((w64 (i634 - 1)).toNat) 0)).set ((w64 (i634 - 1)).toNat) (x633.getD i634.toNat 0)) true]⟩ (by kernel_rfl) ⟨trivial, trivial⟩ ?_
        refine WO_nil rfl ?_
        refine thenS_n ?_
        exact ih _ _ h
      · refine W_sub [0, 1, 2] [0, 5, 6, 7] (st' := ⟨[(0, .one (.e (.sl 0 0 x1.length))), (5, .one (.e (.sl 1 0 ([i2].length)))), (6, .one (.e (.sl 2 0 x633.length))), (7, I i463)], [.row .nod x1 false, .row .int [i2] true, .row .int x633 true]⟩) (by kernel_rfl) ?_
        refine W_exit ?_
        refine thenS_e ?_
        refine thenS_e ?_
        cases h
        exact And.intro rfl rfl

def spec_walk_L1 (rec : (List Nod) → Int → Option ((List Int))) (x1 : List Nod) (i2 : Int) : Nat → (List Int) → Int → Option ((List Int))
| 0, _, _ => none
| n + 1, x462, i463 =>
 iteO (decide (i463 < ((x462.length : Nat) : Int)))
 (bindO (spec_walk_L2 rec x1 i2 i463 n x462 i463) fun x654 =>
 spec_walk_L1 rec x1 i2 n x654 (w64 (i463 + 1)))
 (some x462)

theorem spec_walk_L1_ok (rec : (List Nod) → Int → Option ((List Int))) (hrec : ∀ (x1 : List Nod) (i2 : Int) (x3 : List Int), rec x1 i2 = some x3 → FOk EE 22 [.one (.e (.sl 0 0 x1.length)), I i2] [.row .nod x1 false] (.one (.e (.sl 1 0 x3.length))) [.row .nod x1 false, .row .int x3 true]) (w : World) (X : Nat → Prop) (θ : List Loc) (x1 : List Nod) (i2 : Int) (x560 : (List Int)) : ∀ (n : Nat) (x462 : List Int) (i463 : Int), spec_walk_L1 rec x1 i2 n x462 i463 = some x560 → WL EE ⟨w, X, θ, 79, 1⟩ (subC [1, 1, 1, 0, 1, 4, 4] (bodyC Try.f22)) (fun (e : Exit) (s : St) => e = .exit 0 ∧ s = ⟨[(0, .one (.e (.sl 0 0 x1.length))), (5, .one (.e (.sl 1 0 ([i2].length)))), (6, .one (.e (.sl 2 0 x560.length)))], [.row .nod x1 false, .row .int [i2] true, .row .int x560 true]⟩) ⟨[(0, .one (.e (.sl 0 0 x1.length))), (5, .one (.e (.sl 1 0 ([i2].length)))), (6, .one (.e (.sl 2 0 x462.length))), (7, I i463)], [.row .nod x1 false, .row .int [i2] true, .row .int x462 true]⟩ := by
  intro n
  induction n with
  | zero => intro _ _ h; exact none_e h
  | succ n ih =>
    intro x462 i463 h
    rw [spec_walk_L1] at h
    refine WL_round ?_
    refine W_seq ?_
    refine W_seq ?_
    refine W_region ?_
    refine WO_step 4 [0, 1, 2] [0, 5, 6, 7, 19] (True ∧ (True ∧ True)) ⟨[(0, .one (.e (.sl 0 0 x1.length))), (5, .one (.e (.sl 1 0 ([i2].length)))), (6, .one (.e (.sl 2 0 x462.length))), (7, I i463), (19, B (decide (i463 < ((x462.length : Nat) : Int))))], [.row .nod x1 false, .row .int [i2] true, .row .int x462 true]⟩ (by kernel_rfl) ⟨trivial, trivial, trivial⟩ ?_
    refine WO_nil rfl ?_
    refine thenS_n ?_
    refine iteO_e h (fun hb563 h => W_true rfl hb563 ?_) (fun hb563 h => W_false rfl hb563 ?_)
    · refine W_sub [0, 1, 2] [0, 5, 6, 7] (st' := ⟨[(0, .one (.e (.sl 0 0 x1.length))), (5, .one (.e (.sl 1 0 ([i2].length)))), (6, .one (.e (.sl 2 0 x462.length))), (7, I i463)], [.row .nod x1 false, .row .int [i2] true, .row .int x462 true]⟩) (by kernel_rfl) ?_
      refine W_skip ?_
      refine thenS_n ?_
      refine W_seq ?_
      refine W_block ?_
      refine W_seq ?_
      refine W_region ?_
      refine WO_step 2 [0, 1, 2] [0, 5, 6, 7, 8] True ⟨[(0, .one (.e (.sl 0 0 x1.length))), (5, .one (.e (.sl 1 0 ([i2].length)))), (6, .one (.e (.sl 2 0 x462.length))), (7, I i463), (8, I i463)], [.row .nod x1 false, .row .int [i2] true, .row .int x462 true]⟩ (by kernel_rfl) trivial ?_
      refine WO_nil rfl ?_
      refine thenS_n ?_
      refine W_block ?_
      refine W_loop ?_
      refine bindO_e h (fun x654 hx654 h => ?_)
      refine WL_cut (spec_walk_L2_ok rec hrec w X θ x1 i2 i463 x654 n x462 i463 hx654) ?_
      rintro _ _ ⟨rfl, rfl⟩
      refine blockS_y ?_
      refine blockS_n ?_
      refine thenS_n ?_
      refine W_region ?_
      refine WO_step 3 [0, 1, 2] [0, 5, 6, 7] (True ∧ True) ⟨[(0, .one (.e (.sl 0 0 x1.length))), (5, .one (.e (.sl 1 0 ([i2].length)))), (6, .one (.e (.sl 2 0 x654.length))), (7, I (w64 (i463 + 1)))], [.row .nod x1 false, .row .int [i2] true, .row .int x654 true]⟩ (by kernel_rfl) ⟨trivial, trivial⟩ ?_
      refine WO_nil rfl ?_
      refine thenS_n ?_
      exact ih _ _ h
    · refine W_sub [0, 1, 2] [0, 5, 6] (st' := ⟨[(0, .one (.e (.sl 0 0 x1.length))), (5, .one (.e (.sl 1 0 ([i2].length)))), (6, .one (.e (.sl 2 0 x462.length)))], [.row .nod x1 false, .row .int [i2] true, .row .int x462 true]⟩) (by kernel_rfl) ?_
      refine W_exit ?_
      refine thenS_e ?_
      refine thenS_e ?_
      cases h
      exact And.intro rfl rfl

def spec_walk_L3 (rec : (List Nod) → Int → Option ((List Int))) (x1 : List Nod) (x560 : List Int) : Nat → (List Int) → Int → Option ((List Int))
| 0, _, _ => none
| n + 1, x691, i692 =>
 iteO (decide (i692 < ((x560.length : Nat) : Int)))
 (guardO (0 ≤ i692 ∧ i692 < ((x560.length : Nat) : Int)) <|
 bindO (rec x1 (x560.getD i692.toNat 0)) fun x714 =>
 guardO (0 = 0 ∧ x691.length = x691.length ∧ x691.length + ((x714.drop 0).take x714.length).length ≤ 1099511627776) <|
 spec_walk_L3 rec x1 x560 n (x691 ++ ((x714.drop 0).take x714.length)) (w64 (i692 + 1)))
 (some x691)

theorem spec_walk_L3_ok (rec : (List Nod) → Int → Option ((List Int))) (hrec : ∀ (x1 : List Nod) (i2 : Int) (x3 : List Int), rec x1 i2 = some x3 → FOk EE 22 [.one (.e (.sl 0 0 x1.length)), I i2] [.row .nod x1 false] (.one (.e (.sl 1 0 x3.length))) [.row .nod x1 false, .row .int x3 true]) (w : World) (X : Nat → Prop) (θ : List Loc) (x1 : List Nod) (x560 : List Int) (x705 : (List Int)) : ∀ (n : Nat) (x691 : List Int) (i692 : Int), spec_walk_L3 rec x1 x560 n x691 i692 = some x705 → WL EE ⟨w, X, θ, 79, 1⟩ (subC [1, 1, 1, 1, 0, 1, 4, 4] (bodyC Try.f22)) (fun (e : Exit) (s : St) => e = .exit 4 ∧ s = ⟨[(5, .one (.e (.sl 1 0 x705.length)))], [.row .nod x1 false, .row .int x705 true]⟩) ⟨[(0, .one (.e (.sl 0 0 x1.length))), (5, .one (.e (.sl 1 0 x691.length))), (6, .one (.e (.sl 2 0 x560.length))), (10, I i692)], [.row .nod x1 false, .row .int x691 true, .row .int x560 true]⟩ := by
  intro n
  induction n with
  | zero => intro _ _ h; exact none_e h
  | succ n ih =>
    intro x691 i692 h
    rw [spec_walk_L3] at h
    refine WL_round ?_
    refine W_seq ?_
    refine W_seq ?_
    refine W_region ?_
    refine WO_step 4 [0, 1, 2] [0, 5, 6, 10, 67] (True ∧ (True ∧ True)) ⟨[(0, .one (.e (.sl 0 0 x1.length))), (5, .one (.e (.sl 1 0 x691.length))), (6, .one (.e (.sl 2 0 x560.length))), (10, I i692), (67, B (decide (i692 < ((x560.length : Nat) : Int))))], [.row .nod x1 false, .row .int x691 true, .row .int x560 true]⟩ (by kernel_rfl) ⟨trivial, trivial, trivial⟩ ?_
    refine WO_nil rfl ?_
    refine thenS_n ?_
    refine iteO_e h (fun hb708 h => W_true rfl hb708 ?_) (fun hb708 h => W_false rfl hb708 ?_)
    · refine W_sub [0, 1, 2] [0, 5, 6, 10] (st' := ⟨[(0, .one (.e (.sl 0 0 x1.length))), (5, .one (.e (.sl 1 0 x691.length))), (6, .one (.e (.sl 2 0 x560.length))), (10, I i692)], [.row .nod x1 false, .row .int x691 true, .row .int x560 true]⟩) (by kernel_rfl) ?_
      refine W_skip ?_
      refine thenS_n ?_
      refine W_seq ?_
      refine W_block ?_
      refine W_region ?_
      refine guardO_e h (fun hg713 h => ?_)
      refine WO_step 6 [0, 2, 1] [0, 6, 10, 70, 71, 75] ((0 ≤ i692 ∧ i692 < ((x560.length : Nat) : Int)) ∧ (True ∧ True)) ⟨[(0, .one (.e (.sl 0 0 x1.length))), (6, .one (.e (.sl 1 0 x560.length))), (10, I i692), (70, .one (.e (.sl 2 0 x691.length))), (71, .one (.e (.sl 0 0 x1.length))), (75, I (x560.getD i692.toNat 0))], [.row .nod x1 false, .row .int x560 true, .row .int x691 true]⟩ (by kernel_rfl) ⟨hg713, trivial, trivial⟩ ?_
      refine bindO_e h (fun x714 hc715 h => ?_)
      refine WO_call [.ro 0] Try.f22 rfl rfl rfl (by kernel_rfl) Try.func22 rfl (by kernel_rfl) (hrec x1 (x560.getD i692.toNat 0) x714 hc715) (And.intro (And.intro rfl rfl) (trivial)) rfl ?_
      refine guardO_e h (fun hg716 h => ?_)
      refine WO_step 2 [0, 4, 1] [0, 5, 6, 10] ((0 = 0 ∧ x691.length = x691.length ∧ x691.length + ((x714.drop 0).take x714.length).length ≤ 1099511627776) ∧ True) ⟨[(0, .one (.e (.sl 0 0 x1.length))), (5, .one (.e (.sl 1 0 ((x691 ++ ((x714.drop 0).take x714.length)).length)))), (6, .one (.e (.sl 2 0 x560.length))), (10, I i692)], [.row .nod x1 false, .row .int (x691 ++ ((x714.drop 0).take x714.length)) true, .row .int x560 true]⟩ (by kernel_rfl) ⟨hg716, trivial⟩ ?_
      refine WO_nil rfl ?_
      refine blockS_n ?_
      refine thenS_n ?_
      refine W_region ?_
      refine WO_step 3 [0, 1, 2] [0, 5, 6, 10] (True ∧ True) ⟨[(0, .one (.e (.sl 0 0 x1.length))), (5, .one (.e (.sl 1 0 ((x691 ++ ((x714.drop 0).take x714.length)).length)))), (6, .one (.e (.sl 2 0 x560.length))), (10, I (w64 (i692 + 1)))], [.row .nod x1 false, .row .int (x691 ++ ((x714.drop 0).take x714.length)) true, .row .int x560 true]⟩ (by kernel_rfl) ⟨trivial, trivial⟩ ?_
      refine WO_nil rfl ?_
      refine thenS_n ?_
      exact ih _ _ h
    · refine W_sub [0, 1] [5] (st' := ⟨[(5, .one (.e (.sl 1 0 x691.length)))], [.row .nod x1 false, .row .int x691 true]⟩) (by kernel_rfl) ?_
      refine W_exit ?_
      refine thenS_e ?_
      refine thenS_e ?_
      cases h
      exact And.intro rfl rfl

def spec_walk_B (rec : (List Nod) → Int → Option ((List Int))) (n : Nat) (x1 : List Nod) (i2 : Int) : Option ((List Int)) :=
 bindO (spec_kids n x1 i2) fun x360 =>
 bindO (spec_walk_L1 rec x1 i2 n x360 0) fun x560 =>
 bindO (spec_walk_L3 rec x1 x560 n [i2] 0) fun x705 =>
 some x705

theorem spec_walk_B_ok (rec : (List Nod) → Int → Option ((List Int))) (hrec : ∀ (x1 : List Nod) (i2 : Int) (x3 : List Int), rec x1 i2 = some x3 → FOk EE 22 [.one (.e (.sl 0 0 x1.length)), I i2] [.row .nod x1 false] (.one (.e (.sl 1 0 x3.length))) [.row .nod x1 false, .row .int x3 true]) (n : Nat) (x1 : List Nod) (i2 : Int) (x359 : List Int) (h : spec_walk_B rec n x1 i2 = some x359) : FOk EE 22 [.one (.e (.sl 0 0 x1.length)), I i2] [.row .nod x1 false] (.one (.e (.sl 1 0 x359.length))) [.row .nod x1 false, .row .int x359 true] := by
  unfold spec_walk_B at h
  refine FOk_of_W 79 1 Try.func22 rfl rfl (Nat.le_of_ble_eq_true rfl) rfl (fun w X θ => ?_)
  refine W_seq ?_
  refine W_region ?_
  refine WO_step 1 [0] [0, 1] True ⟨[(0, .one (.e (.sl 0 0 x1.length))), (1, I i2)], [.row .nod x1 false]⟩ (by kernel_rfl) trivial ?_
  refine WO_nil rfl ?_
  refine thenS_n ?_
  refine W_seq ?_
  refine W_region ?_
  refine WO_step 3 [0, 1] [0, 1, 5] True ⟨[(0, .one (.e (.sl 0 0 x1.length))), (1, I i2), (5, .one (.e (.sl 1 0 ([i2].length))))], [.row .nod x1 false, .row .int [i2] true]⟩ (by kernel_rfl) trivial ?_
  refine WO_nil rfl ?_
  refine thenS_n ?_
  refine W_seq ?_
  refine W_region ?_
  refine WO_step 2 [0, 1] [0, 5, 13, 14] True ⟨[(0, .one (.e (.sl 0 0 x1.length))), (5, .one (.e (.sl 1 0 ([i2].length)))), (13, .one (.e (.sl 0 0 x1.length))), (14, I i2)], [.row .nod x1 false, .row .int [i2] true]⟩ (by kernel_rfl) trivial ?_
  refine bindO_e h (fun x360 hc361 h => ?_)
  refine WO_call [.ro 0] Try.f44 rfl rfl rfl (by kernel_rfl) Try.func44 rfl (by kernel_rfl) (spec_kids_ok n x1 i2 x360 hc361) (And.intro (And.intro rfl rfl) (trivial)) rfl ?_
  refine WO_step 1 [0, 1, 2] [0, 5, 6] True ⟨[(0, .one (.e (.sl 0 0 x1.length))), (5, .one (.e (.sl 1 0 ([i2].length)))), (6, .one (.e (.sl 2 0 x360.length)))], [.row .nod x1 false, .row .int [i2] true, .row .int x360 true]⟩ (by kernel_rfl) trivial ?_
  refine WO_nil rfl ?_
  refine thenS_n ?_
  refine W_seq ?_
  refine W_seq ?_
  refine W_region ?_
  refine WO_step 1 [0, 1, 2] [0, 5, 6, 7] True ⟨[(0, .one (.e (.sl 0 0 x1.length))), (5, .one (.e (.sl 1 0 ([i2].length)))), (6, .one (.e (.sl 2 0 x360.length))), (7, I 0)], [.row .nod x1 false, .row .int [i2] true, .row .int x360 true]⟩ (by kernel_rfl) trivial ?_
  refine WO_nil rfl ?_
  refine thenS_n ?_
  refine W_block ?_
  refine W_loop ?_
  refine bindO_e h (fun x560 hx560 h => ?_)
  refine WL_cut (spec_walk_L1_ok rec hrec w X θ x1 i2 x560 n x360 0 hx560) ?_
  rintro _ _ ⟨rfl, rfl⟩
  refine blockS_y ?_
  refine thenS_n ?_
  refine W_seq ?_
  refine W_seq ?_
  refine W_region ?_
  refine WO_step 1 [0, 1, 2] [0, 5, 6, 10] True ⟨[(0, .one (.e (.sl 0 0 x1.length))), (5, .one (.e (.sl 1 0 ([i2].length)))), (6, .one (.e (.sl 2 0 x560.length))), (10, I 0)], [.row .nod x1 false, .row .int [i2] true, .row .int x560 true]⟩ (by kernel_rfl) trivial ?_
  refine WO_nil rfl ?_
  refine thenS_n ?_
  refine W_block ?_
  refine W_loop ?_
  refine bindO_e h (fun x705 hx705 h => ?_)
  refine WL_cut (spec_walk_L3_ok rec hrec w X θ x1 x560 x705 n [i2] 0 hx705) ?_
  rintro _ _ ⟨rfl, rfl⟩
  refine blockS_y ?_
  refine thenS_n ?_
  refine W_seq ?_
  refine W_region ?_
  refine WO_step 2 [0, 1] [4] True ⟨[(4, .one (.e (.sl 1 0 x705.length)))], [.row .nod x1 false, .row .int x705 true]⟩ (by kernel_rfl) trivial ?_
  refine WO_nil rfl ?_
  refine thenS_n ?_
  refine W_ret ?_
  cases h
  exact ⟨[0, 1], True, by kernel_rfl, trivial⟩

def spec_walk : Nat → (List Nod) → Int → Option ((List Int))
| 0, _, _ => none
| n + 1, x1, i2 => spec_walk_B (spec_walk n) n x1 i2

theorem spec_walk_ok : ∀ (n : Nat) (x1 : List Nod) (i2 : Int) (x359 : List Int), spec_walk n x1 i2 = some x359 → FOk EE 22 [.one (.e (.sl 0 0 x1.length)), I i2] [.row .nod x1 false] (.one (.e (.sl 1 0 x359.length))) [.row .nod x1 false, .row .int x359 true] := by
  intro n
  induction n with
  | zero => intro _ _ _ h; exact none_e h
  | succ n ih => intro x1 i2 x359 h; exact spec_walk_B_ok (spec_walk n) ih n x1 i2 x359 h

/- spec.pathTo -/
def spec_pathTo_L1 (x1 : List Nod) : Nat → (List Int) → Int → Option ((List Int))
| 0, _, _ => none
| n + 1, x46, i47 =>
 iteO (decide (0 < i47))
 (guardO (0 ≤ i47 ∧ i47 < ((x1.length : Nat) : Int)) <|
 guardO (0 = 0 ∧ [(x1.getD i47.toNat dnod).parent].length = [(x1.getD i47.toNat dnod).parent].length ∧ [(x1.getD i47.toNat dnod).parent].length + ((x46.drop 0).take x46.length).length ≤ 1099511627776) <|
 spec_pathTo_L1 x1 n ([(x1.getD i47.toNat dnod).parent] ++ ((x46.drop 0).take x46.length)) ((x1.getD i47.toNat dnod).parent))
 (some x46)

theorem spec_pathTo_L1_ok (w : World) (X : Nat → Prop) (θ : List Loc) (x1 : List Nod) (x56 : (List Int)) : ∀ (n : Nat) (x46 : List Int) (i47 : Int), spec_pathTo_L1 x1 n x46 i47 = some x56 → WL EE ⟨w, X, θ, 20, 1⟩ (subC [1, 1, 0, 4, 4] (bodyC Try.f45)) (fun (e : Exit) (s : St) => e = .exit 0 ∧ s = ⟨[(5, .one (.e (.sl 1 0 x56.length)))], [.row .nod x1 false, .row .int x56 true]⟩) ⟨[(0, .one (.e (.sl 0 0 x1.length))), (1, I i47), (5, .one (.e (.sl 1 0 x46.length)))], [.row .nod x1 false, .row .int x46 true]⟩ := by
  intro n
  induction n with
  | zero => intro _ _ h; exact none_e h
  | succ n ih =>
    intro x46 i47 h
    rw [spec_pathTo_L1] at h
    refine WL_round ?_
    refine W_seq ?_
    refine W_seq ?_
    refine W_region ?_
    refine WO_step 2 [0, 1] [0, 1, 5, 9] (True ∧ True) ⟨[(0, .one (.e (.sl 0 0 x1.length))), (1, I i47), (5, .one (.e (.sl 1 0 x46.length))), (9, B (decide (0 < i47)))], [.row .nod x1 false, .row .int x46 true]⟩ (by kernel_rfl) ⟨trivial, trivial⟩ ?_
    refine WO_nil rfl ?_
    refine thenS_n ?_
    refine iteO_e h (fun hb59 h => W_true rfl hb59 ?_) (fun hb59 h => W_false rfl hb59 ?_)
    · refine W_sub [0, 1] [0, 1, 5] (st' := ⟨[(0, .one (.e (.sl 0 0 x1.length))), (1, I i47), (5, .one (.e (.sl 1 0 x46.length)))], [.row .nod x1 false, .row .int x46 true]⟩) (by kernel_rfl) ?_
      refine W_skip ?_
      refine thenS_n ?_
      refine W_block ?_
      refine W_seq ?_
      refine W_region ?_
      refine guardO_e h (fun hg62 h => ?_)
      refine WO_step 6 [0, 1] [0, 1, 5] ((0 ≤ i47 ∧ i47 < ((x1.length : Nat) : Int)) ∧ (True ∧ True)) ⟨[(0, .one (.e (.sl 0 0 x1.length))), (1, I ((x1.getD i47.toNat dnod).parent)), (5, .one (.e (.sl 1 0 x46.length)))], [.row .nod x1 false, .row .int x46 true]⟩ (by kernel_rfl) ⟨hg62, trivial, trivial⟩ ?_
      refine WO_nil rfl ?_
      refine thenS_n ?_
      refine W_region ?_
      refine guardO_e h (fun hg63 h => ?_)
      refine WO_step 5 [0, 3] [0, 1, 5] ((0 = 0 ∧ [(x1.getD i47.toNat dnod).parent].length = [(x1.getD i47.toNat dnod).parent].length ∧ [(x1.getD i47.toNat dnod).parent].length + ((x46.drop 0).take x46.length).length ≤ 1099511627776) ∧ True) ⟨[(0, .one (.e (.sl 0 0 x1.length))), (1, I ((x1.getD i47.toNat dnod).parent)), (5, .one (.e (.sl 1 0 (([(x1.getD i47.toNat dnod).parent] ++ ((x46.drop 0).take x46.length)).length))))], [.row .nod x1 false, .row .int ([(x1.getD i47.toNat dnod).parent] ++ ((x46.drop 0).take x46.length)) true]⟩ (by kernel_rfl) ⟨hg63, trivial⟩ ?_
      refine WO_nil rfl ?_
      refine blockS_n ?_
      refine thenS_n ?_
      exact ih _ _ h
    · refine W_sub [0, 1] [5] (st' := ⟨[(5, .one (.e (.sl 1 0 x46.length)))], [.row .nod x1 false, .row .int x46 true]⟩) (by kernel_rfl) ?_
      refine W_exit ?_
      refine thenS_e ?_
      refine thenS_e ?_
      cases h
      exact And.intro rfl rfl

def spec_pathTo (n : Nat) (x1 : List Nod) (i2 : Int) : Option ((List Int)) :=
 bindO (spec_pathTo_L1 x1 n [i2] i2) fun x56 =>
 some x56

theorem spec_pathTo_ok (n : Nat) (x1 : List Nod) (i2 : Int) (x33 : List Int) (h : spec_pathTo n x1 i2 = some x33) : FOk EE 45 [.one (.e (.sl 0 0 x1.length)), I i2] [.row .nod x1 false] (.one (.e (.sl 1 0 x33.length))) [.row .nod x1 false, .row .int x33 true] := by
  unfold spec_pathTo at h
  refine FOk_of_W 20 1 Try.func45 rfl rfl (Nat.le_of_ble_eq_true rfl) rfl (fun w X θ => ?_)
  refine W_seq ?_
  refine W_region ?_
  refine WO_step 1 [0] [0, 1] True ⟨[(0, .one (.e (.sl 0 0 x1.length))), (1, I i2)], [.row .nod x1 false]⟩ (by kernel_rfl) trivial ?_
  refine WO_nil rfl ?_
  refine thenS_n ?_
  refine W_seq ?_
  refine W_region ?_
  refine WO_step 3 [0, 1] [0, 1, 5] True ⟨[(0, .one (.e (.sl 0 0 x1.length))), (1, I i2), (5, .one (.e (.sl 1 0 ([i2].length))))], [.row .nod x1 false, .row .int [i2] true]⟩ (by kernel_rfl) trivial ?_
  refine WO_nil rfl ?_
  refine thenS_n ?_
  refine W_seq ?_
  refine W_block ?_
  refine W_loop ?_
  refine bindO_e h (fun x56 hx56 h => ?_)
  refine WL_cut (spec_pathTo_L1_ok w X θ x1 x56 n [i2] i2 hx56) ?_
  rintro _ _ ⟨rfl, rfl⟩
  refine blockS_y ?_
  refine thenS_n ?_
  refine W_seq ?_
  refine W_region ?_
  refine WO_step 2 [0, 1] [4] True ⟨[(4, .one (.e (.sl 1 0 x56.length)))], [.row .nod x1 false, .row .int x56 true]⟩ (by kernel_rfl) trivial ?_
  refine WO_nil rfl ?_
  refine thenS_n ?_
  refine W_ret ?_
  cases h
  exact ⟨[0, 1], True, by kernel_rfl, trivial⟩

/- spec.pathText -/
def spec_pathText_L1 (x1 : List Nod) (i2 : Int) (x48 : List Int) : Nat → Str → Int → Option (Str)
| 0, _, _ => none
| n + 1, s66, i67 =>
 iteO (decide (i67 < ((x48.length : Nat) : Int)))
 (guardO (s66.length + [47].length ≤ 1099511627776) <|
 guardO (0 ≤ i67 ∧ i67 < ((x48.length : Nat) : Int)) <|
 guardO (0 ≤ (x48.getD i67.toNat 0) ∧ (x48.getD i67.toNat 0) < ((x1.length : Nat) : Int)) <|
 guardO ((s66 ++ [47]).length + ((x1.getD ((x48.getD i67.toNat 0).toNat) dnod).name).length ≤ 1099511627776) <|
 spec_pathText_L1 x1 i2 x48 n ((s66 ++ [47]) ++ ((x1.getD ((x48.getD i67.toNat 0).toNat) dnod).name)) (w64 (i67 + 1)))
 (some s66)

theorem spec_pathText_L1_ok (w : World) (X : Nat → Prop) (θ : List Loc) (x1 : List Nod) (i2 : Int) (x48 : List Int) (s80 : Str) : ∀ (n : Nat) (s66 : Str) (i67 : Int), spec_pathText_L1 x1 i2 x48 n s66 i67 = some s80 → WL EE ⟨w, X, θ, 31, 1⟩ (subC [1, 1, 1, 0, 1, 4, 4] (bodyC Try.f24)) (fun (e : Exit) (s : St) => e = .exit 0 ∧ s = ⟨[(1, I i2), (5, S s80)], [.row .nod x1 false]⟩) ⟨[(0, .one (.e (.sl 0 0 x1.length))), (1, I i2), (5, S s66), (6, .one (.e (.sl 1 0 x48.length))), (7, I i67)], [.row .nod x1 false, .row .int x48 true]⟩ := by
  intro n
  induction n with
  | zero => intro _ _ h; exact none_e h
  | succ n ih =>
    intro s66 i67 h
    rw [spec_pathText_L1] at h
    refine WL_round ?_
    refine W_seq ?_
    refine W_seq ?_
    refine W_region ?_
    refine WO_step 4 [0, 1] [0, 1, 5, 6, 7, 14] (True ∧ (True ∧ True)) ⟨[(0, .one (.e (.sl 0 0 x1.length))), (1, I i2), (5, S s66), (6, .one (.e (.sl 1 0 x48.length))), (7, I i67), (14, B (decide (i67 < ((x48.length : Nat) : Int))))], [.row .nod x1 false, .row .int x48 true]⟩ (by kernel_rfl) ⟨trivial, trivial, trivial⟩ ?_
    refine WO_nil rfl ?_
    refine thenS_n ?_
    refine iteO_e h (fun hb83 h => W_true rfl hb83 ?_) (fun hb83 h => W_false rfl hb83 ?_)
    · refine W_sub [0, 1] [0, 1, 5, 6, 7] (st' := ⟨[(0, .one (.e (.sl 0 0 x1.length))), (1, I i2), (5, S s66), (6, .one (.e (.sl 1 0 x48.length))), (7, I i67)], [.row .nod x1 false, .row .int x48 true]⟩) (by kernel_rfl) ?_
      refine W_skip ?_
      refine thenS_n ?_
      refine W_seq ?_
      refine W_block ?_
      refine W_region ?_
      refine guardO_e h (fun hg88 h => ?_)
      refine guardO_e h (fun hg89 h => ?_)
      refine guardO_e h (fun hg90 h => ?_)
      refine guardO_e h (fun hg91 h => ?_)
      refine WO_step 12 [0, 1] [0, 1, 5, 6, 7] ((s66.length + [47].length ≤ 1099511627776) ∧ ((0 ≤ i67 ∧ i67 < ((x48.length : Nat) : Int)) ∧ (True ∧ ((0 ≤ (x48.getD i67.toNat 0) ∧ (x48.getD i67.toNat 0) < ((x1.length : Nat) : Int)) ∧ (True ∧ (((s66 ++ [47]).length + ((x1.getD ((x48.getD i67.toNat 0).toNat) dnod).name).length ≤ 1099511627776) ∧ True)))))) ⟨[(0, .one (.e (.sl 0 0 x1.length))), (1, I i2), (5, S ((s66 ++ [47]) ++ ((x1.getD ((x48.getD i67.toNat 0).toNat) dnod).name))), (6, .one (.e (.sl 1 0 x48.length))), (7, I i67)], [.row .nod x1 false, .row .int x48 true]⟩ (by kernel_rfl) ⟨hg88, hg89, trivial, hg90, trivial, hg91, trivial⟩ ?_
      refine WO_nil rfl ?_
      refine blockS_n ?_
      refine thenS_n ?_
      refine W_region ?_
      refine WO_step 3 [0, 1] [0, 1, 5, 6, 7] (True ∧ True) ⟨[(0, .one (.e (.sl 0 0 x1.length))), (1, I i2), (5, S ((s66 ++ [47]) ++ ((x1.getD ((x48.getD i67.toNat 0).toNat) dnod).name))), (6, .one (.e (.sl 1 0 x48.length))), (7, I (w64 (i67 + 1)))], [.row .nod x1 false, .row .int x48 true]⟩ (by kernel_rfl) ⟨trivial, trivial⟩ ?_
      refine WO_nil rfl ?_
      refine thenS_n ?_
      exact ih _ _ h
    · refine W_sub [0] [1, 5] (st' := ⟨[(1, I i2), (5, S s66)], [.row .nod x1 false]⟩) (by kernel_rfl) ?_
      refine W_exit ?_
      refine thenS_e ?_
      refine thenS_e ?_
      cases h
      exact And.intro rfl rfl

def spec_pathText (n : Nat) (x1 : List Nod) (i2 : Int) : Option (Str) :=
 bindO (spec_pathTo n x1 i2) fun x48 =>
 bindO (spec_pathText_L1 x1 i2 x48 n [] 1) fun s80 =>
 iteO (decide (i2 = 0))
 (some [47])
 (some s80)

theorem spec_pathText_ok (n : Nat) (x1 : List Nod) (i2 : Int) (s47 : Str) (h : spec_pathText n x1 i2 = some s47) : FOk EE 24 [.one (.e (.sl 0 0 x1.length)), I i2] [.row .nod x1 false] (S s47) [.row .nod x1 false] := by
  unfold spec_pathText at h
  refine FOk_of_W 31 1 Try.func24 rfl rfl (Nat.le_of_ble_eq_true rfl) rfl (fun w X θ => ?_)
  refine W_seq ?_
  refine W_region ?_
  refine WO_step 1 [0] [0, 1] True ⟨[(0, .one (.e (.sl 0 0 x1.length))), (1, I i2)], [.row .nod x1 false]⟩ (by kernel_rfl) trivial ?_
  refine WO_nil rfl ?_
  refine thenS_n ?_
  refine W_seq ?_
  refine W_region ?_
  refine WO_step 1 [0] [0, 1, 5] True ⟨[(0, .one (.e (.sl 0 0 x1.length))), (1, I i2), (5, S [])], [.row .nod x1 false]⟩ (by kernel_rfl) trivial ?_
  refine WO_nil rfl ?_
  refine thenS_n ?_
  refine W_seq ?_
  refine W_region ?_
  refine WO_step 2 [0] [0, 1, 5, 8, 9] True ⟨[(0, .one (.e (.sl 0 0 x1.length))), (1, I i2), (5, S []), (8, .one (.e (.sl 0 0 x1.length))), (9, I i2)], [.row .nod x1 false]⟩ (by kernel_rfl) trivial ?_
  refine bindO_e h (fun x48 hc49 h => ?_)
  refine WO_call [.ro 0] Try.f45 rfl rfl rfl (by kernel_rfl) Try.func45 rfl (by kernel_rfl) (spec_pathTo_ok n x1 i2 x48 hc49) (And.intro (And.intro rfl rfl) (trivial)) rfl ?_
  refine WO_step 1 [0, 1] [0, 1, 5, 6] True ⟨[(0, .one (.e (.sl 0 0 x1.length))), (1, I i2), (5, S []), (6, .one (.e (.sl 1 0 x48.length)))], [.row .nod x1 false, .row .int x48 true]⟩ (by kernel_rfl) trivial ?_
  refine WO_nil rfl ?_
  refine thenS_n ?_
  refine W_seq ?_
  refine W_seq ?_
  refine W_region ?_
  refine WO_step 1 [0, 1] [0, 1, 5, 6, 7] True ⟨[(0, .one (.e (.sl 0 0 x1.length))), (1, I i2), (5, S []), (6, .one (.e (.sl 1 0 x48.length))), (7, I 1)], [.row .nod x1 false, .row .int x48 true]⟩ (by kernel_rfl) trivial ?_
  refine WO_nil rfl ?_
  refine thenS_n ?_
  refine W_block ?_
  refine W_loop ?_
  refine bindO_e h (fun s80 hs80 h => ?_)
  refine WL_cut (spec_pathText_L1_ok w X θ x1 i2 x48 s80 n [] 1 hs80) ?_
  rintro _ _ ⟨rfl, rfl⟩
  refine blockS_y ?_
  refine thenS_n ?_
  refine W_seq ?_
  refine W_seq ?_
  refine W_region ?_
  refine WO_step 2 [0] [5, 29] (True ∧ True) ⟨[(5, S s80), (29, B (decide (i2 = 0)))], [.row .nod x1 false]⟩ (by kernel_rfl) ⟨trivial, trivial⟩ ?_
  refine WO_nil rfl ?_
  refine thenS_n ?_
  refine iteO_e h (fun hb94 h => W_true rfl hb94 ?_) (fun hb94 h => W_false rfl hb94 ?_)
  · refine W_seq ?_
    refine W_region ?_
    refine WO_step 1 [0] [4] True ⟨[(4, S [47])], [.row .nod x1 false]⟩ (by kernel_rfl) trivial ?_
    refine WO_nil rfl ?_
    refine thenS_n ?_
    refine W_ret ?_
    refine thenS_r ?_
    cases h
    exact ⟨[0], True, by kernel_rfl, trivial⟩
  · refine W_sub [0] [5] (st' := ⟨[(5, S s80)], [.row .nod x1 false]⟩) (by kernel_rfl) ?_
    refine W_skip ?_
    refine thenS_n ?_
    refine W_seq ?_
    refine W_region ?_
    refine WO_step 2 [0] [4] True ⟨[(4, S s80)], [.row .nod x1 false]⟩ (by kernel_rfl) trivial ?_
    refine WO_nil rfl ?_
    refine thenS_n ?_
    refine W_ret ?_
    cases h
    exact ⟨[0], True, by kernel_rfl, trivial⟩

/- spec.resolve -/
def spec_resolve_L1 (x1 : List Nod) (s2 : Str) : Nat → Int → Option ((Int) ⊕ (Unit))
| 0, _ => none
| n + 1, i56 =>
 iteO (decide (i56 < ((x1.length : Nat) : Int)))
 (bindO (spec_pathText n x1 i56) fun s76 =>
 iteO (decide (s76 = s2))
 (some (.inl i56))
 (spec_resolve_L1 x1 s2 n (w64 (i56 + 1))))
 (some (.inr ()))

theorem spec_resolve_L1_ok (w : World) (X : Nat → Prop) (θ : List Loc) (x1 : List Nod) (s2 : Str) (v : (Int) ⊕ (Unit)) : ∀ (n : Nat) (i56 : Int), spec_resolve_L1 x1 s2 n i56 = some v → WL EE ⟨w, X, θ, 18, 1⟩ (subC [1, 0, 1, 4, 4] (bodyC Try.f23)) (fun (e : Exit) (s : St) => (match v with | (.inl i68) => e = .ret ∧ s = ⟨[(4, I i68)], [.row .nod x1 false]⟩ | (.inr _) => e = .exit 0 ∧ s = ⟨[], [.row .nod x1 false]⟩ : Prop)) ⟨[(0, .one (.e (.sl 0 0 x1.length))), (1, S s2), (5, I i56)], [.row .nod x1 false]⟩ := by
  intro n
  induction n with
  | zero => intro _ h; exact none_e h
  | succ n ih =>
    intro i56 h
    rw [spec_resolve_L1] at h
    refine WL_round ?_
    refine W_seq ?_
    refine W_seq ?_
    refine W_region ?_
    refine WO_step 4 [0] [0, 1, 5, 9] (True ∧ (True ∧ True)) ⟨[(0, .one (.e (.sl 0 0 x1.length))), (1, S s2), (5, I i56), (9, B (decide (i56 < ((x1.length : Nat) : Int))))], [.row .nod x1 false]⟩ (by kernel_rfl) ⟨trivial, trivial, trivial⟩ ?_
    refine WO_nil rfl ?_
    refine thenS_n ?_
    refine iteO_e h (fun hb71 h => W_true rfl hb71 ?_) (fun hb71 h => W_false rfl hb71 ?_)
    · refine W_sub [0] [0, 1, 5] (st' := ⟨[(0, .one (.e (.sl 0 0 x1.length))), (1, S s2), (5, I i56)], [.row .nod x1 false]⟩) (by kernel_rfl) ?_
      refine W_skip ?_
      refine thenS_n ?_
      refine W_seq ?_
      refine W_block ?_
      refine W_seq ?_
      refine W_region ?_
      refine WO_step 2 [0] [0, 1, 5, 12, 13] True ⟨[(0, .one (.e (.sl 0 0 x1.length))), (1, S s2), (5, I i56), (12, .one (.e (.sl 0 0 x1.length))), (13, I i56)], [.row .nod x1 false]⟩ (by kernel_rfl) trivial ?_
      refine bindO_e h (fun s76 hc77 h => ?_)
      refine WO_call [.ro 0] Try.f24 rfl rfl rfl (by kernel_rfl) Try.func24 rfl (by kernel_rfl) (spec_pathText_ok n x1 i56 s76 hc77) (And.intro (And.intro rfl rfl) (trivial)) rfl ?_
      refine WO_step 2 [0] [0, 1, 5, 16] (True ∧ True) ⟨[(0, .one (.e (.sl 0 0 x1.length))), (1, S s2), (5, I i56), (16, B (decide (s76 = s2)))], [.row .nod x1 false]⟩ (by kernel_rfl) ⟨trivial, trivial⟩ ?_
      refine WO_nil rfl ?_
      refine thenS_n ?_
      refine iteO_e h (fun hb79 h => W_true rfl hb79 ?_) (fun hb79 h => W_false rfl hb79 ?_)
      · refine W_seq ?_
        refine W_region ?_
        refine WO_step 2 [0] [4] True ⟨[(4, I i56)], [.row .nod x1 false]⟩ (by kernel_rfl) trivial ?_
        refine WO_nil rfl ?_
        refine thenS_n ?_
        refine W_ret ?_
        refine blockS_r ?_
        refine thenS_r ?_
        refine thenS_r ?_
        cases h
        exact And.intro rfl rfl
      · refine W_sub [0] [0, 1, 5] (st' := ⟨[(0, .one (.e (.sl 0 0 x1.length))), (1, S s2), (5, I i56)], [.row .nod x1 false]⟩) (by kernel_rfl) ?_
        refine W_skip ?_
        refine blockS_n ?_
        refine thenS_n ?_
        refine W_region ?_
        refine WO_step 3 [0] [0, 1, 5] (True ∧ True) ⟨[(0, .one (.e (.sl 0 0 x1.length))), (1, S s2), (5, I (w64 (i56 + 1)))], [.row .nod x1 false]⟩ (by kernel_rfl) ⟨trivial, trivial⟩ ?_
        refine WO_nil rfl ?_
        refine thenS_n ?_
        exact ih _ h
    · refine W_sub [0] [] (st' := ⟨[], [.row .nod x1 false]⟩) (by kernel_rfl) ?_
      refine W_exit ?_
      refine thenS_e ?_
      refine thenS_e ?_
      cases h
      exact And.intro rfl rfl

def spec_resolve (n : Nat) (x1 : List Nod) (s2 : Str) : Option (Int) :=
 bindO (spec_resolve_L1 x1 s2 n 0) fun v80 =>
 match v80 with
 | (.inl i68) => (some i68)
 | (.inr _) => (some (-1))


theorem spec_resolve_ok (n : Nat) (x1 : List Nod) (s2 : Str) (i41 : Int) (h : spec_resolve n x1 s2 = some i41) : FOk EE 23 [.one (.e (.sl 0 0 x1.length)), S s2] [.row .nod x1 false] (I i41) [.row .nod x1 false] := by
  unfold spec_resolve at h
  refine FOk_of_W 18 1 Try.func23 rfl rfl (Nat.le_of_ble_eq_true rfl) rfl (fun w X θ => ?_)
  refine W_seq ?_
  refine W_region ?_
  refine WO_step 1 [0] [0, 1] True ⟨[(0, .one (.e (.sl 0 0 x1.length))), (1, S s2)], [.row .nod x1 false]⟩ (by kernel_rfl) trivial ?_
  refine WO_nil rfl ?_
  refine thenS_n ?_
  refine W_seq ?_
  refine W_seq ?_
  refine W_region ?_
  refine WO_step 1 [0] [0, 1, 5] True ⟨[(0, .one (.e (.sl 0 0 x1.length))), (1, S s2), (5, I 0)], [.row .nod x1 false]⟩ (by kernel_rfl) trivial ?_
  refine WO_nil rfl ?_
  refine thenS_n ?_
  refine W_block ?_
  refine W_loop ?_
  refine bindO_e h (fun v80 hv80 h => ?_)
  refine WL_cut (spec_resolve_L1_ok w X θ x1 s2 v80 n 0 hv80) ?_
  rcases v80 with i68 | _
  · rintro _ _ ⟨rfl, rfl⟩
    refine blockS_r ?_
    refine thenS_r ?_
    cases h
    exact ⟨[0], True, by kernel_rfl, trivial⟩
  · rintro _ _ ⟨rfl, rfl⟩
    refine blockS_y ?_
    refine thenS_n ?_
    refine W_seq ?_
    refine W_region ?_
    refine WO_step 1 [0] [4] True ⟨[(4, I (-1))], [.row .nod x1 false]⟩ (by kernel_rfl) trivial ?_
    refine WO_nil rfl ?_
    refine thenS_n ?_
    refine W_ret ?_
    cases h
    exact ⟨[0], True, by kernel_rfl, trivial⟩

/- spec.entries -/
def spec_entries_L1 (x1 : List Nod) (x59 : List Int) : Nat → (List Edt) → Int → Option ((List Edt))
| 0, _, _ => none
| n + 1, x81, i82 =>
 iteO (decide (i82 < ((x59.length : Nat) : Int)))
 (guardO (0 ≤ i82 ∧ i82 < ((x59.length : Nat) : Int)) <|
 bindO (spec_pathText n x1 (x59.getD i82.toNat 0)) fun s110 =>
 guardO (0 ≤ i82 ∧ i82 < ((x59.length : Nat) : Int)) <|
 guardO (0 ≤ (x59.getD i82.toNat 0) ∧ (x59.getD i82.toNat 0) < ((x1.length : Nat) : Int)) <|
 guardO (0 = 0 ∧ x81.length = x81.length ∧ x81.length + (([(⟨0, s110, (x1.getD ((x59.getD i82.toNat 0).toNat) dnod).value⟩ : Edt)].drop 0).take ([(⟨0, s110, (x1.getD ((x59.getD i82.toNat 0).toNat) dnod).value⟩ : Edt)].length)).length ≤ 1099511627776) <|
 spec_entries_L1 x1 x59 n (x81 ++ (([(⟨0, s110, (x1.getD ((x59.getD i82.toNat 0).toNat) dnod).value⟩ : Edt)].drop 0).take ([(⟨0, s110, (x1.getD ((x59.getD i82.toNat 0).toNat) dnod).value⟩ : Edt)].length))) (w64 (i82 + 1)))
 (some x81)

theorem spec_entries_L1_ok (w : World) (X : Nat → Prop) (θ : List Loc) (x1 : List Nod) (x59 : List Int) (x99 : (List Edt)) : ∀ (n : Nat) (x81 : List Edt) (i82 : Int), spec_entries_L1 x1 x59 n x81 i82 = some x99 → WL EE ⟨w, X, θ, 34, 1⟩ (subC [1, 1, 1, 0, 1, 4, 4] (bodyC Try.f25)) (fun (e : Exit) (s : St) => e = .exit 0 ∧ s = ⟨[(3, .one (.e (.sl 1 0 x99.length)))], [.row .nod x1 false, .row .edt x99 true]⟩) ⟨[(0, .one (.e (.sl 0 0 x1.length))), (3, .one (.e (.sl 1 0 x81.length))), (4, .one (.e (.sl 2 0 x59.length))), (5, I i82)], [.row .nod x1 false, .row .edt x81 true, .row .int x59 true]⟩ := by
  intro n
  induction n with
  | zero => intro _ _ h; exact none_e h
  | succ n ih =>
    intro x81 i82 h
    rw [spec_entries_L1] at h
    refine WL_round ?_
    refine W_seq ?_
    refine W_seq ?_
    refine W_region ?_
    refine WO_step 4 [0, 1, 2] [0, 3, 4, 5, 12] (True ∧ (True ∧ True)) ⟨[(0, .one (.e (.sl 0 0 x1.length))), (3, .one (.e (.sl 1 0 x81.length))), (4, .one (.e (.sl 2 0 x59.length))), (5, I i82), (12, B (decide (i82 < ((x59.length : Nat) : Int))))], [.row .nod x1 false, .row .edt x81 true, .row .int x59 true]⟩ (by kernel_rfl) ⟨trivial, trivial, trivial⟩ ?_
    refine WO_nil rfl ?_
    refine thenS_n ?_
    refine iteO_e h (fun hb102 h => W_true rfl hb102 ?_) (fun hb102 h => W_false rfl hb102 ?_)
    · refine W_sub [0, 1, 2] [0, 3, 4, 5] (st' := ⟨[(0, .one (.e (.sl 0 0 x1.length))), (3, .one (.e (.sl 1 0 x81.length))), (4, .one (.e (.sl 2 0 x59.length))), (5, I i82)], [.row .nod x1 false, .row .edt x81 true, .row .int x59 true]⟩) (by kernel_rfl) ?_
      refine W_skip ?_
      refine thenS_n ?_
      refine W_seq ?_
      refine W_block ?_
      refine guardO_e h (fun hg109 h => ?_)
      refine bindO_e h (fun s110 hc111 h => ?_)
      refine guardO_e h (fun hg112 h => ?_)
      refine guardO_e h (fun hg113 h => ?_)
      refine guardO_e h (fun hg114 h => ?_)
      refine W_cut (Q' := fun (e : Exit) (s : St) => e = .normal ∧ s = ⟨[(0, .one (.e (.sl 0 0 x1.length))), (3, .one (.e (.sl 1 0 ((x81 ++ (([(⟨0, s110, (x1.getD ((x59.getD i82.toNat 0).toNat) dnod).value⟩ : Edt)].drop 0).take ([(⟨0, s110, (x1.getD ((x59.getD i82.toNat 0).toNat) dnod).value⟩ : Edt)].length))).length)))), (4, .one (.e (.sl 2 0 x59.length))), (5, I i82)], [.row .nod x1 false, .row .edt (x81 ++ (([(⟨0, s110, (x1.getD ((x59.getD i82.toNat 0).toNat) dnod).value⟩ : Edt)].drop 0).take ([(⟨0, s110, (x1.getD ((x59.getD i82.toNat 0).toNat) dnod).value⟩ : Edt)].length))) true, .row .int x59 true]⟩) ?_ ?_
      · refine W_draw [1] false (by kernel_rfl) (by kernel_rfl) ?_
        refine WD_takeK [0, 1, 2, 3, 4, 5, 7, 8, 9, 10, 11, 12, 13, 14] [0, 3, 4, 5, 15, 16, 20, 29] [0, 3, 4, 5, 15, 16, 20, 29] (φ := ((0 ≤ i82 ∧ i82 < ((x59.length : Nat) : Int)) ∧ (0 ≤ i82 ∧ i82 < ((x59.length : Nat) : Int)) ∧ (True ∧ True ∧ ((0 ≤ i82 ∧ i82 < ((x59.length : Nat) : Int)) ∧ (0 ≤ i82 ∧ i82 < ((x59.length : Nat) : Int)) ∧ (True ∧ True ∧ ((0 ≤ (x59.getD i82.toNat 0) ∧ (x59.getD i82.toNat 0) < ((x1.length : Nat) : Int)) ∧ (0 ≤ (x59.getD i82.toNat 0) ∧ (x59.getD i82.toNat 0) < ((x1.length : Nat) : Int)) ∧ (True ∧ True ∧ True))))))) (ls' := #[true, true, true, true, true, true, false, true, true, true, true, true, true, true, true, false, false, false, false]) (Ts' := [(0, .one (.e (.sl 0 0 x1.length))), (3, .one (.e (.sl 1 0 x81.length))), (4, .one (.e (.sl 2 0 x59.length))), (5, I i82), (15, .one (.e (.sl 1 0 x81.length))), (16, .one (.e (.sl 0 0 x1.length))), (20, I (x59.getD i82.toNat 0)), (29, I ((x1.getD ((x59.getD i82.toNat 0).toNat) dnod).value))]) (st' := ⟨[(0, .one (.e (.sl 0 0 x1.length))), (3, .one (.e (.sl 1 0 x81.length))), (4, .one (.e (.sl 2 0 x59.length))), (5, I i82), (15, .one (.e (.sl 1 0 x81.length))), (16, .one (.e (.sl 0 0 x1.length))), (20, I (x59.getD i82.toNat 0)), (29, I ((x1.getD ((x59.getD i82.toNat 0).toNat) dnod).value))], [.row .nod x1 false, .row .edt x81 true, .row .int x59 true]⟩) (n2 := 5) (by kernel_rfl) ⟨hg109, hg109, trivial, trivial, hg112, hg112, trivial, trivial, hg113, hg113, trivial, trivial, trivial⟩ rfl ?_
        refine WD_all [6] (n := 4) (by kernel_rfl) rfl ?_
        refine WM_call [.ro 0] Try.f24 rfl rfl (by kernel_rfl) Try.func24 rfl (by kernel_rfl) (spec_pathText_ok n x1 (x59.getD i82.toNat 0) s110 hc111) (And.intro (And.intro rfl rfl) (trivial)) rfl (And.intro rfl (And.intro rfl (trivial))) ?_
        refine WD_takeK [15] [0, 3, 4, 5, 15, 30] [0, 3, 4, 5, 15, 30] (φ := True) (ls' := #[true, true, true, true, true, true, true, true, true, true, true, true, true, true, true, true, false, false, false]) (Ts' := [(0, .one (.e (.sl 0 0 x1.length))), (3, .one (.e (.sl 1 0 x81.length))), (4, .one (.e (.sl 2 0 x59.length))), (5, I i82), (15, .one (.e (.sl 1 0 x81.length))), (30, AGG [cI 0, cS s110, cI ((x1.getD ((x59.getD i82.toNat 0).toNat) dnod).value)])]) (st' := ⟨[(0, .one (.e (.sl 0 0 x1.length))), (3, .one (.e (.sl 1 0 x81.length))), (4, .one (.e (.sl 2 0 x59.length))), (5, I i82), (15, .one (.e (.sl 1 0 x81.length))), (30, AGG [cI 0, cS s110, cI ((x1.getD ((x59.getD i82.toNat 0).toNat) dnod).value)])], [.row .nod x1 false, .row .edt x81 true, .row .int x59 true]⟩) (n2 := 3) (by kernel_rfl) trivial rfl ?_
        refine WD_all [16] (n := 2) (by kernel_rfl) rfl ?_
        refine WM_op (φ := True) (v := .one (.e (.sl 3 0 ([(⟨0, s110, (x1.getD ((x59.getD i82.toNat 0).toNat) dnod).value⟩ : Edt)].length)))) (H' := [.row .nod x1 false, .row .edt x81 true, .row .int x59 true, .row .edt [(⟨0, s110, (x1.getD ((x59.getD i82.toNat 0).toNat) dnod).value⟩ : Edt)] true]) rfl rfl (by kernel_rfl) trivial rfl (And.intro rfl (And.intro rfl (trivial))) ?_
        refine WD_all [17] (n := 1) (by kernel_rfl) rfl ?_
        refine WM_op (φ := 0 = 0 ∧ x81.length = x81.length ∧ x81.length + (([(⟨0, s110, (x1.getD ((x59.getD i82.toNat 0).toNat) dnod).value⟩ : Edt)].drop 0).take ([(⟨0, s110, (x1.getD ((x59.getD i82.toNat 0).toNat) dnod).value⟩ : Edt)].length)).length ≤ 1099511627776) (v := .one (.e (.sl 4 0 ((x81 ++ (([(⟨0, s110, (x1.getD ((x59.getD i82.toNat 0).toNat) dnod).value⟩ : Edt)].drop 0).take ([(⟨0, s110, (x1.getD ((x59.getD i82.toNat 0).toNat) dnod).value⟩ : Edt)].length))).length)))) (H' := [.row .nod x1 false, .dead, .row .int x59 true, .row .edt [(⟨0, s110, (x1.getD ((x59.getD i82.toNat 0).toNat) dnod).value⟩ : Edt)] true, .row .edt (x81 ++ (([(⟨0, s110, (x1.getD ((x59.getD i82.toNat 0).toNat) dnod).value⟩ : Edt)].drop 0).take ([(⟨0, s110, (x1.getD ((x59.getD i82.toNat 0).toNat) dnod).value⟩ : Edt)].length))) true]) rfl rfl (by kernel_rfl) hg114 rfl (And.intro rfl (And.intro rfl (trivial))) ?_
        refine WD_all [18] (n := 0) (by kernel_rfl) rfl ?_
        refine WM_op (φ := True) (v := .one (.e (.sl 4 0 ((x81 ++ (([(⟨0, s110, (x1.getD ((x59.getD i82.toNat 0).toNat) dnod).value⟩ : Edt)].drop 0).take ([(⟨0, s110, (x1.getD ((x59.getD i82.toNat 0).toNat) dnod).value⟩ : Edt)].length))).length)))) (H' := [.row .nod x1 false, .dead, .row .int x59 true, .row .edt [(⟨0, s110, (x1.getD ((x59.getD i82.toNat 0).toNat) dnod).value⟩ : Edt)] true, .row .edt (x81 ++ (([(⟨0, s110, (x1.getD ((x59.getD i82.toNat 0).toNat) dnod).value⟩ : Edt)].drop 0).take ([(⟨0, s110, (x1.getD ((x59.getD i82.toNat 0).toNat) dnod).value⟩ : Edt)].length))) true]) rfl rfl (by kernel_rfl) trivial rfl (And.intro rfl (And.intro rfl (trivial))) ?_
        exact WD_done [0, 4, 2] [0, 3, 4, 5] (st' := ⟨[(0, .one (.e (.sl 0 0 x1.length))), (3, .one (.e (.sl 1 0 ((x81 ++ (([(⟨0, s110, (x1.getD ((x59.getD i82.toNat 0).toNat) dnod).value⟩ : Edt)].drop 0).take ([(⟨0, s110, (x1.getD ((x59.getD i82.toNat 0).toNat) dnod).value⟩ : Edt)].length))).length)))), (4, .one (.e (.sl 2 0 x59.length))), (5, I i82)], [.row .nod x1 false, .row .edt (x81 ++ (([(⟨0, s110, (x1.getD ((x59.getD i82.toNat 0).toNat) dnod).value⟩ : Edt)].drop 0).take ([(⟨0, s110, (x1.getD ((x59.getD i82.toNat 0).toNat) dnod).value⟩ : Edt)].length))) true, .row .int x59 true]⟩) (by kernel_rfl) (by kernel_rfl) (And.intro rfl rfl)
      · rintro _ _ ⟨rfl, rfl⟩
        refine blockS_n ?_
        refine thenS_n ?_
        refine W_region ?_
        refine WO_step 3 [0, 1, 2] [0, 3, 4, 5] (True ∧ True) ⟨[(0, .one (.e (.sl 0 0 x1.length))), (3, .one (.e (.sl 1 0 ((x81 ++ (([(⟨0, s110, (x1.getD ((x59.getD i82.toNat 0).toNat) dnod).value⟩ : Edt)].drop 0).take ([(⟨0, s110, (x1.getD ((x59.getD i82.toNat 0).toNat) dnod).value⟩ : Edt)].length))).length)))), (4, .one (.e (.sl 2 0 x59.length))), (5, I (w64 (i82 + 1)))], [.row .nod x1 false, .row .edt (x81 ++ (([(⟨0, s110, (x1.getD ((x59.getD i82.toNat 0).toNat) dnod).value⟩ : Edt)].drop 0).take ([(⟨0, s110, (x1.getD ((x59.getD i82.toNat 0).toNat) dnod).value⟩ : Edt)].length))) true, .row .int x59 true]⟩ (by kernel_rfl) ⟨trivial, trivial⟩ ?_
        refine WO_nil rfl ?_
        refine thenS_n ?_
        exact ih _ _ h
    · refine W_sub [0, 1] [3] (st' := ⟨[(3, .one (.e (.sl 1 0 x81.length)))], [.row .nod x1 false, .row .edt x81 true]⟩) (by kernel_rfl) ?_
      refine W_exit ?_
      refine thenS_e ?_
      refine thenS_e ?_
      cases h
      exact And.intro rfl rfl

def spec_entries (n : Nat) (x1 : List Nod) : Option ((List Edt)) :=
 bindO (spec_walk n x1 0) fun x59 =>
 bindO (spec_entries_L1 x1 x59 n ([] : List Edt) 0) fun x99 =>
 some x99

theorem spec_entries_ok (n : Nat) (x1 : List Nod) (x58 : List Edt) (h : spec_entries n x1 = some x58) : FOk EE 25 [.one (.e (.sl 0 0 x1.length))] [.row .nod x1 false] (.one (.e (.sl 1 0 x58.length))) [.row .nod x1 false, .row .edt x58 true] := by
  unfold spec_entries at h
  refine FOk_of_W 34 1 Try.func25 rfl rfl (Nat.le_of_ble_eq_true rfl) rfl (fun w X θ => ?_)
  refine W_seq ?_
  refine W_region ?_
  refine WO_step 1 [0] [0] True ⟨[(0, .one (.e (.sl 0 0 x1.length)))], [.row .nod x1 false]⟩ (by kernel_rfl) trivial ?_
  refine WO_nil rfl ?_
  refine thenS_n ?_
  refine W_seq ?_
  refine W_region ?_
  refine WO_step 2 [0, 1] [0, 3] True ⟨[(0, .one (.e (.sl 0 0 x1.length))), (3, .one (.e (.sl 1 0 (([] : List Edt).length))))], [.row .nod x1 false, .row .edt ([] : List Edt) true]⟩ (by kernel_rfl) trivial ?_
  refine WO_nil rfl ?_
  refine thenS_n ?_
  refine W_seq ?_
  refine W_region ?_
  refine WO_step 1 [0, 1] [0, 3, 7] True ⟨[(0, .one (.e (.sl 0 0 x1.length))), (3, .one (.e (.sl 1 0 (([] : List Edt).length)))), (7, .one (.e (.sl 0 0 x1.length)))], [.row .nod x1 false, .row .edt ([] : List Edt) true]⟩ (by kernel_rfl) trivial ?_
  refine bindO_e h (fun x59 hc60 h => ?_)
  refine WO_call [.ro 0] Try.f22 rfl rfl rfl (by kernel_rfl) Try.func22 rfl (by kernel_rfl) (spec_walk_ok n x1 0 x59 hc60) (And.intro (And.intro rfl rfl) (trivial)) rfl ?_
  refine WO_step 1 [0, 1, 2] [0, 3, 4] True ⟨[(0, .one (.e (.sl 0 0 x1.length))), (3, .one (.e (.sl 1 0 (([] : List Edt).length)))), (4, .one (.e (.sl 2 0 x59.length)))], [.row .nod x1 false, .row .edt ([] : List Edt) true, .row .int x59 true]⟩ (by kernel_rfl) trivial ?_
  refine WO_nil rfl ?_
  refine thenS_n ?_
  refine W_seq ?_
  refine W_seq ?_
  refine W_region ?_
  refine WO_step 1 [0, 1, 2] [0, 3, 4, 5] True ⟨[(0, .one (.e (.sl 0 0 x1.length))), (3, .one (.e (.sl 1 0 (([] : List Edt).length)))), (4, .one (.e (.sl 2 0 x59.length))), (5, I 0)], [.row .nod x1 false, .row .edt ([] : List Edt) true, .row .int x59 true]⟩ (by kernel_rfl) trivial ?_
  refine WO_nil rfl ?_
  refine thenS_n ?_
  refine W_block ?_
  refine W_loop ?_
  refine bindO_e h (fun x99 hx99 h => ?_)
  refine WL_cut (spec_entries_L1_ok w X θ x1 x59 x99 n ([] : List Edt) 0 hx99) ?_
  rintro _ _ ⟨rfl, rfl⟩
  refine blockS_y ?_
  refine thenS_n ?_
  refine W_seq ?_
  refine W_region ?_
  refine WO_step 2 [0, 1] [2] True ⟨[(2, .one (.e (.sl 1 0 x99.length)))], [.row .nod x1 false, .row .edt x99 true]⟩ (by kernel_rfl) trivial ?_
  refine WO_nil rfl ?_
  refine thenS_n ?_
  refine W_ret ?_
  cases h
  exact ⟨[0, 1], True, by kernel_rfl, trivial⟩

/- spec.EditsBetween -/
def spec_EditsBetween_L1 (x1 : List Nod) (x2 : List Nod) (x296 : List Int) : Nat → (List Edt) → Int → Option ((List Edt))
| 0, _, _ => none
| n + 1, x356, i357 =>
 iteO (decide (i357 < ((x296.length : Nat) : Int)))
 (guardO (0 ≤ i357 ∧ i357 < ((x296.length : Nat) : Int)) <|
 bindO (spec_pathText n x1 (x296.getD i357.toNat 0)) fun s442 =>
 bindO (spec_resolve n x2 s442) fun i444 =>
 bindO (iteO (decide (i444 < 0))
 (guardO (0 ≤ (x296.getD i357.toNat 0) ∧ (x296.getD i357.toNat 0) < ((x1.length : Nat) : Int)) <|
 bindO (spec_pathText n x1 ((x1.getD ((x296.getD i357.toNat 0).toNat) dnod).parent)) fun s456 =>
 bindO (spec_resolve n x2 s456) fun i458 =>
 some (decide (0 ≤ i458)))
 (some false)) fun b452 =>
 bindO (iteO b452
 (bindO (spec_pathText n x1 (x296.getD i357.toNat 0)) fun s467 =>
 guardO (0 = 0 ∧ x356.length = x356.length ∧ x356.length + (([(⟨1, s467, 0⟩ : Edt)].drop 0).take ([(⟨1, s467, 0⟩ : Edt)].length)).length ≤ 1099511627776) <|
 some (x356 ++ (([(⟨1, s467, 0⟩ : Edt)].drop 0).take ([(⟨1, s467, 0⟩ : Edt)].length))))
 (some x356)) fun x464 =>
 spec_EditsBetween_L1 x1 x2 x296 n x464 (w64 (i357 + 1)))
 (some x356)

theorem spec_EditsBetween_L1_ok (w : World) (X : Nat → Prop) (θ : List Loc) (x1 : List Nod) (x2 : List Nod) (x296 : List Int) (x412 : (List Edt)) : ∀ (n : Nat) (x356 : List Edt) (i357 : Int), spec_EditsBetween_L1 x1 x2 x296 n x356 i357 = some x412 → WL EE ⟨w, X, θ, 96, 2⟩ (subC [1, 1, 1, 1, 0, 1, 4, 4] (bodyC Try.f7)) (fun (e : Exit) (s : St) => e = .exit 0 ∧ s = ⟨[(0, .one (.e (.sl 0 0 x1.length))), (1, .one (.e (.sl 1 0 x2.length))), (5, .one (.e (.sl 2 0 x412.length)))], [.row .nod x1 false, .row .nod x2 false, .row .edt x412 true]⟩) ⟨[(0, .one (.e (.sl 0 0 x1.length))), (1, .one (.e (.sl 1 0 x2.length))), (5, .one (.e (.sl 2 0 x356.length))), (6, .one (.e (.sl 3 0 x296.length))), (7, I i357)], [.row .nod x1 false, .row .nod x2 false, .row .edt x356 true, .row .int x296 true]⟩ := by
  intro n
  induction n with
  | zero => intro _ _ h; exact none_e h
  | succ n ih =>
    intro x356 i357 h
    rw [spec_EditsBetween_L1] at h
    refine WL_round ?_
    refine W_seq ?_
    refine W_seq ?_
    refine W_region ?_
    refine WO_step 4 [0, 1, 2, 3] [0, 1, 5, 6, 7, 26] (True ∧ (True ∧ True)) ⟨[(0, .one (.e (.sl 0 0 x1.length))), (1, .one (.e (.sl 1 0 x2.length))), (5, .one (.e (.sl 2 0 x356.length))), (6, .one (.e (.sl 3 0 x296.length))), (7, I i357), (26, B (decide (i357 < ((x296.length : Nat) : Int))))], [.row .nod x1 false, .row .nod x2 false, .row .edt x356 true, .row .int x296 true]⟩ (by kernel_rfl) ⟨trivial, trivial, trivial⟩ ?_
    refine WO_nil rfl ?_
    refine thenS_n ?_
    refine iteO_e h (fun hb415 h => W_true rfl hb415 ?_) (fun hb415 h => W_false rfl hb415 ?_)
    · refine W_sub [0, 1, 2, 3] [0, 1, 5, 6, 7] (st' := ⟨[(0, .one (.e (.sl 0 0 x1.length))), (1, .one (.e (.sl 1 0 x2.length))), (5, .one (.e (.sl 2 0 x356.length))), (6, .one (.e (.sl 3 0 x296.length))), (7, I i357)], [.row .nod x1 false, .row .nod x2 false, .row .edt x356 true, .row .int x296 true]⟩) (by kernel_rfl) ?_
      refine W_skip ?_
      refine thenS_n ?_
      refine W_seq ?_
      refine W_block ?_
      refine W_seq ?_
      refine W_region ?_
      refine guardO_e h (fun hg441 h => ?_)
      refine WO_step 5 [0, 1, 2, 3] [0, 1, 5, 6, 7, 8] ((0 ≤ i357 ∧ i357 < ((x296.length : Nat) : Int)) ∧ (True ∧ True)) ⟨[(0, .one (.e (.sl 0 0 x1.length))), (1, .one (.e (.sl 1 0 x2.length))), (5, .one (.e (.sl 2 0 x356.length))), (6, .one (.e (.sl 3 0 x296.length))), (7, I i357), (8, I (x296.getD i357.toNat 0))], [.row .nod x1 false, .row .nod x2 false, .row .edt x356 true, .row .int x296 true]⟩ (by kernel_rfl) ⟨hg441, trivial, trivial⟩ ?_
      refine WO_nil rfl ?_
      refine thenS_n ?_
      refine W_seq ?_
      refine W_region ?_
      refine WO_step 3 [0, 1, 2, 3] [0, 1, 5, 6, 7, 8, 33, 34, 35] True ⟨[(0, .one (.e (.sl 0 0 x1.length))), (1, .one (.e (.sl 1 0 x2.length))), (5, .one (.e (.sl 2 0 x356.length))), (6, .one (.e (.sl 3 0 x296.length))), (7, I i357), (8, I (x296.getD i357.toNat 0)), (33, .one (.e (.sl 1 0 x2.length))), (34, .one (.e (.sl 0 0 x1.length))), (35, I (x296.getD i357.toNat 0))], [.row .nod x1 false, .row .nod x2 false, .row .edt x356 true, .row .int x296 true]⟩ (by kernel_rfl) trivial ?_
      refine bindO_e h (fun s442 hc443 h => ?_)
      refine WO_call [.ro 0] Try.f24 rfl rfl rfl (by kernel_rfl) Try.func24 rfl (by kernel_rfl) (spec_pathText_ok n x1 (x296.getD i357.toNat 0) s442 hc443) (And.intro (And.intro rfl rfl) (trivial)) rfl ?_
      refine WO_sub [0, 1, 2, 3] [0, 1, 5, 6, 7, 8, 33, 36] (st' := ⟨[(0, .one (.e (.sl 0 0 x1.length))), (1, .one (.e (.sl 1 0 x2.length))), (5, .one (.e (.sl 2 0 x356.length))), (6, .one (.e (.sl 3 0 x296.length))), (7, I i357), (8, I (x296.getD i357.toNat 0)), (33, .one (.e (.sl 1 0 x2.length))), (36, S s442)], [.row .nod x1 false, .row .nod x2 false, .row .edt x356 true, .row .int x296 true]⟩) (by kernel_rfl) ?_
      refine bindO_e h (fun i444 hc445 h => ?_)
      refine WO_call [.ro 1] Try.f23 rfl rfl rfl (by kernel_rfl) Try.func23 rfl (by kernel_rfl) (spec_resolve_ok n x2 s442 i444 hc445) (And.intro (And.intro rfl rfl) (trivial)) rfl ?_
      refine WO_step 2 [0, 1, 2, 3] [0, 1, 5, 6, 7, 8, 39] (True ∧ True) ⟨[(0, .one (.e (.sl 0 0 x1.length))), (1, .one (.e (.sl 1 0 x2.length))), (5, .one (.e (.sl 2 0 x356.length))), (6, .one (.e (.sl 3 0 x296.length))), (7, I i357), (8, I (x296.getD i357.toNat 0)), (39, B (decide (i444 < 0)))], [.row .nod x1 false, .row .nod x2 false, .row .edt x356 true, .row .int x296 true]⟩ (by kernel_rfl) ⟨trivial, trivial⟩ ?_
      refine bindO_e h (fun b452 hv453 h => ?_)
      refine WO_thru ⟨[(0, .one (.e (.sl 0 0 x1.length))), (1, .one (.e (.sl 1 0 x2.length))), (5, .one (.e (.sl 2 0 x356.length))), (6, .one (.e (.sl 3 0 x296.length))), (7, I i357), (8, I (x296.getD i357.toNat 0)), (50, B b452)], [.row .nod x1 false, .row .nod x2 false, .row .edt x356 true, .row .int x296 true]⟩ ?_ ?_
      · refine iteO_e hv453 (fun hb454 hv453 => WO_known 39 true rfl hb454 ?_) (fun hb454 hv453 => WO_known 39 false rfl hb454 ?_)
        · refine guardO_e hv453 (fun hg455 hv453 => ?_)
          refine WO_step 7 [0, 1, 2, 3] [0, 1, 5, 6, 7, 8, 39, 40, 41, 46] ((0 ≤ (x296.getD i357.toNat 0) ∧ (x296.getD i357.toNat 0) < ((x1.length : Nat) : Int)) ∧ (True ∧ True)) ⟨[(0, .one (.e (.sl 0 0 x1.length))), (1, .one (.e (.sl 1 0 x2.length))), (5, .one (.e (.sl 2 0 x356.length))), (6, .one (.e (.sl 3 0 x296.length))), (7, I i357), (8, I (x296.getD i357.toNat 0)), (39, B true), (40, .one (.e (.sl 1 0 x2.length))), (41, .one (.e (.sl 0 0 x1.length))), (46, I ((x1.getD ((x296.getD i357.toNat 0).toNat) dnod).parent))], [.row .nod x1 false, .row .nod x2 false, .row .edt x356 true, .row .int x296 true]⟩ (by kernel_rfl) ⟨hg455, trivial, trivial⟩ ?_
          refine bindO_e hv453 (fun s456 hc457 hv453 => ?_)
          refine WO_call [.ro 0] Try.f24 rfl rfl rfl (by kernel_rfl) Try.func24 rfl (by kernel_rfl) (spec_pathText_ok n x1 ((x1.getD ((x296.getD i357.toNat 0).toNat) dnod).parent) s456 hc457) (And.intro (And.intro rfl rfl) (trivial)) rfl ?_
          refine WO_sub [0, 1, 2, 3] [0, 1, 5, 6, 7, 8, 39, 40, 47] (st' := ⟨[(0, .one (.e (.sl 0 0 x1.length))), (1, .one (.e (.sl 1 0 x2.length))), (5, .one (.e (.sl 2 0 x356.length))), (6, .one (.e (.sl 3 0 x296.length))), (7, I i357), (8, I (x296.getD i357.toNat 0)), (39, B true), (40, .one (.e (.sl 1 0 x2.length))), (47, S s456)], [.row .nod x1 false, .row .nod x2 false, .row .edt x356 true, .row .int x296 true]⟩) (by kernel_rfl) ?_
          refine bindO_e hv453 (fun i458 hc459 hv453 => ?_)
          refine WO_call [.ro 1] Try.f23 rfl rfl rfl (by kernel_rfl) Try.func23 rfl (by kernel_rfl) (spec_resolve_ok n x2 s456 i458 hc459) (And.intro (And.intro rfl rfl) (trivial)) rfl ?_
          refine WO_step 2 [0, 1, 2, 3] [0, 1, 5, 6, 7, 8, 50] (True ∧ True) ⟨[(0, .one (.e (.sl 0 0 x1.length))), (1, .one (.e (.sl 1 0 x2.length))), (5, .one (.e (.sl 2 0 x356.length))), (6, .one (.e (.sl 3 0 x296.length))), (7, I i357), (8, I (x296.getD i357.toNat 0)), (50, B (decide (0 ≤ i458)))], [.row .nod x1 false, .row .nod x2 false, .row .edt x356 true, .row .int x296 true]⟩ (by kernel_rfl) ⟨trivial, trivial⟩ ?_
          cases hv453
          exact WO_nil rfl ⟨rfl, rfl⟩
        · refine WO_step 11 [0, 1, 2, 3] [0, 1, 5, 6, 7, 8, 50] True ⟨[(0, .one (.e (.sl 0 0 x1.length))), (1, .one (.e (.sl 1 0 x2.length))), (5, .one (.e (.sl 2 0 x356.length))), (6, .one (.e (.sl 3 0 x296.length))), (7, I i357), (8, I (x296.getD i357.toNat 0)), (50, B false)], [.row .nod x1 false, .row .nod x2 false, .row .edt x356 true, .row .int x296 true]⟩ (by kernel_rfl) trivial ?_
          cases hv453
          exact WO_nil rfl ⟨rfl, rfl⟩
      · refine thenS_n ?_
        refine bindO_e h (fun x464 hx464 h => ?_)
        refine W_cut (Q' := fun (e : Exit) (s : St) => e = .normal ∧ s = ⟨[(0, .one (.e (.sl 0 0 x1.length))), (1, .one (.e (.sl 1 0 x2.length))), (5, .one (.e (.sl 2 0 x464.length))), (6, .one (.e (.sl 3 0 x296.length))), (7, I i357)], [.row .nod x1 false, .row .nod x2 false, .row .edt x464 true, .row .int x296 true]⟩) ?_ ?_
        · refine iteO_e hx464 (fun hb466 hx464 => W_true rfl hb466 ?_) (fun hb466 hx464 => W_false rfl hb466 ?_)
          · refine W_region ?_
            refine WO_step 3 [0, 1, 3, 2] [0, 1, 6, 7, 51, 52, 53] True ⟨[(0, .one (.e (.sl 0 0 x1.length))), (1, .one (.e (.sl 1 0 x2.length))), (6, .one (.e (.sl 2 0 x296.length))), (7, I i357), (51, .one (.e (.sl 3 0 x356.length))), (52, .one (.e (.sl 0 0 x1.length))), (53, I (x296.getD i357.toNat 0))], [.row .nod x1 false, .row .nod x2 false, .row .int x296 true, .row .edt x356 true]⟩ (by kernel_rfl) trivial ?_
            refine bindO_e hx464 (fun s467 hc468 hx464 => ?_)
            refine WO_call [.ro 0] Try.f24 rfl rfl rfl (by kernel_rfl) Try.func24 rfl (by kernel_rfl) (spec_pathText_ok n x1 (x296.getD i357.toNat 0) s467 hc468) (And.intro (And.intro rfl rfl) (trivial)) rfl ?_
            refine guardO_e hx464 (fun hg469 hx464 => ?_)
            refine WO_step 4 [0, 1, 5, 2] [0, 1, 5, 6, 7] ((0 = 0 ∧ x356.length = x356.length ∧ x356.length + (([(⟨1, s467, 0⟩ : Edt)].drop 0).take ([(⟨1, s467, 0⟩ : Edt)].length)).length ≤ 1099511627776) ∧ True) ⟨[(0, .one (.e (.sl 0 0 x1.length))), (1, .one (.e (.sl 1 0 x2.length))), (5, .one (.e (.sl 2 0 ((x356 ++ (([(⟨1, s467, 0⟩ : Edt)].drop 0).take ([(⟨1, s467, 0⟩ : Edt)].length))).length)))), (6, .one (.e (.sl 3 0 x296.length))), (7, I i357)], [.row .nod x1 false, .row .nod x2 false, .row .edt (x356 ++ (([(⟨1, s467, 0⟩ : Edt)].drop 0).take ([(⟨1, s467, 0⟩ : Edt)].length))) true, .row .int x296 true]⟩ (by kernel_rfl) ⟨hg469, trivial⟩ ?_
            refine WO_nil rfl ?_
            cases hx464
            exact And.intro rfl rfl
          · refine W_sub [0, 1, 2, 3] [0, 1, 5, 6, 7] (st' := ⟨[(0, .one (.e (.sl 0 0 x1.length))), (1, .one (.e (.sl 1 0 x2.length))), (5, .one (.e (.sl 2 0 x356.length))), (6, .one (.e (.sl 3 0 x296.length))), (7, I i357)], [.row .nod x1 false, .row .nod x2 false, .row .edt x356 true, .row .int x296 true]⟩) (by kernel_rfl) ?_
            refine W_skip ?_
            cases hx464
            exact And.intro rfl rfl
        · rintro _ _ ⟨rfl, rfl⟩
          refine blockS_n ?_
          refine thenS_n ?_
          refine W_region ?_
          refine WO_step 3 [0, 1, 2, 3] [0, 1, 5, 6, 7] (True ∧ True) ⟨[(0, .one (.e (.sl 0 0 x1.length))), (1, .one (.e (.sl 1 0 x2.length))), (5, .one (.e (.sl 2 0 x464.length))), (6, .one (.e (.sl 3 0 x296.length))), (7, I (w64 (i357 + 1)))], [.row .nod x1 false, .row .nod x2 false, .row .edt x464 true, .row .int x296 true]⟩ (by kernel_rfl) ⟨trivial, trivial⟩ ?_
          refine WO_nil rfl ?_
          refine thenS_n ?_
          exact ih _ _ h
    · refine W_sub [0, 1, 2] [0, 1, 5] (st' := ⟨[(0, .one (.e (.sl 0 0 x1.length))), (1, .one (.e (.sl 1 0 x2.length))), (5, .one (.e (.sl 2 0 x356.length)))], [.row .nod x1 false, .row .nod x2 false, .row .edt x356 true]⟩) (by kernel_rfl) ?_
      refine W_exit ?_
      refine thenS_e ?_
      refine thenS_e ?_
      cases h
      exact And.intro rfl rfl

def spec_EditsBetween_L2 (x1 : List Nod) (x471 : List Edt) (x2 : List Nod) : Nat → (List Edt) → Int → Option ((List Edt))
| 0, _, _ => none
| n + 1, x507, i508 =>
 iteO (decide (i508 < ((x471.length : Nat) : Int)))
 (guardO (0 ≤ i508 ∧ i508 < ((x471.length : Nat) : Int)) <|
 bindO (spec_resolve n x1 ((x471.getD i508.toNat dedt).path)) fun i557 =>
 bindO (iteO (decide (i557 < 0))
 (some true)
 (guardO (0 ≤ i557 ∧ i557 < ((x1.length : Nat) : Int)) <|
 guardO (0 ≤ i508 ∧ i508 < ((x471.length : Nat) : Int)) <|
 some (!decide (((x1.getD i557.toNat dnod).value) = ((x471.getD i508.toNat dedt).value))))) fun b562 =>
 bindO (iteO b562
 (guardO (0 ≤ i508 ∧ i508 < ((x471.length : Nat) : Int)) <|
 guardO (0 = 0 ∧ x507.length = x507.length ∧ x507.length + (([(⟨(x471.getD i508.toNat dedt).kind, (x471.getD i508.toNat dedt).path, (x471.getD i508.toNat dedt).value⟩ : Edt)].drop 0).take ([(⟨(x471.getD i508.toNat dedt).kind, (x471.getD i508.toNat dedt).path, (x471.getD i508.toNat dedt).value⟩ : Edt)].length)).length ≤ 1099511627776) <|
 some (x507 ++ (([(⟨(x471.getD i508.toNat dedt).kind, (x471.getD i508.toNat dedt).path, (x471.getD i508.toNat dedt).value⟩ : Edt)].drop 0).take ([(⟨(x471.getD i508.toNat dedt).kind, (x471.getD i508.toNat dedt).path, (x471.getD i508.toNat dedt).value⟩ : Edt)].length))))
 (some x507)) fun x567 =>
 spec_EditsBetween_L2 x1 x471 x2 n x567 (w64 (i508 + 1)))
 (some x507)

theorem spec_EditsBetween_L2_ok (w : World) (X : Nat → Prop) (θ : List Loc) (x1 : List Nod) (x471 : List Edt) (x2 : List Nod) (x539 : (List Edt)) : ∀ (n : Nat) (x507 : List Edt) (i508 : Int), spec_EditsBetween_L2 x1 x471 x2 n x507 i508 = some x539 → WL EE ⟨w, X, θ, 96, 2⟩ (subC [1, 1, 1, 1, 1, 1, 0, 1, 4, 4] (bodyC Try.f7)) (fun (e : Exit) (s : St) => e = .exit 2 ∧ s = ⟨[(5, .one (.e (.sl 2 0 x539.length)))], [.row .nod x1 false, .row .nod x2 false, .row .edt x539 true]⟩) ⟨[(0, .one (.e (.sl 0 0 x1.length))), (5, .one (.e (.sl 2 0 x507.length))), (9, .one (.e (.sl 3 0 x471.length))), (10, I i508)], [.row .nod x1 false, .row .nod x2 false, .row .edt x507 true, .row .edt x471 true]⟩ := by
  intro n
  induction n with
  | zero => intro _ _ h; exact none_e h
  | succ n ih =>
    intro x507 i508 h
    rw [spec_EditsBetween_L2] at h
    refine WL_round ?_
    refine W_seq ?_
    refine W_seq ?_
    refine W_region ?_
    refine WO_step 4 [0, 1, 2, 3] [0, 5, 9, 10, 63] (True ∧ (True ∧ True)) ⟨[(0, .one (.e (.sl 0 0 x1.length))), (5, .one (.e (.sl 2 0 x507.length))), (9, .one (.e (.sl 3 0 x471.length))), (10, I i508), (63, B (decide (i508 < ((x471.length : Nat) : Int))))], [.row .nod x1 false, .row .nod x2 false, .row .edt x507 true, .row .edt x471 true]⟩ (by kernel_rfl) ⟨trivial, trivial, trivial⟩ ?_
    refine WO_nil rfl ?_
    refine thenS_n ?_
    refine iteO_e h (fun hb542 h => W_true rfl hb542 ?_) (fun hb542 h => W_false rfl hb542 ?_)
    · refine W_sub [0, 1, 2, 3] [0, 5, 9, 10] (st' := ⟨[(0, .one (.e (.sl 0 0 x1.length))), (5, .one (.e (.sl 2 0 x507.length))), (9, .one (.e (.sl 3 0 x471.length))), (10, I i508)], [.row .nod x1 false, .row .nod x2 false, .row .edt x507 true, .row .edt x471 true]⟩) (by kernel_rfl) ?_
      refine W_skip ?_
      refine thenS_n ?_
      refine W_seq ?_
      refine W_block ?_
      refine W_seq ?_
      refine W_region ?_
      refine guardO_e h (fun hg556 h => ?_)
      refine WO_step 6 [0, 1, 2, 3] [0, 5, 9, 10, 66, 71] ((0 ≤ i508 ∧ i508 < ((x471.length : Nat) : Int)) ∧ (True ∧ True)) ⟨[(0, .one (.e (.sl 0 0 x1.length))), (5, .one (.e (.sl 2 0 x507.length))), (9, .one (.e (.sl 3 0 x471.length))), (10, I i508), (66, .one (.e (.sl 0 0 x1.length))), (71, S ((x471.getD i508.toNat dedt).path))], [.row .nod x1 false, .row .nod x2 false, .row .edt x507 true, .row .edt x471 true]⟩ (by kernel_rfl) ⟨hg556, trivial, trivial⟩ ?_
      refine bindO_e h (fun i557 hc558 h => ?_)
      refine WO_call [.ro 0] Try.f23 rfl rfl rfl (by kernel_rfl) Try.func23 rfl (by kernel_rfl) (spec_resolve_ok n x1 ((x471.getD i508.toNat dedt).path) i557 hc558) (And.intro (And.intro rfl rfl) (trivial)) rfl ?_
      refine WO_step 1 [0, 1, 2, 3] [0, 5, 9, 10, 11] True ⟨[(0, .one (.e (.sl 0 0 x1.length))), (5, .one (.e (.sl 2 0 x507.length))), (9, .one (.e (.sl 3 0 x471.length))), (10, I i508), (11, I i557)], [.row .nod x1 false, .row .nod x2 false, .row .edt x507 true, .row .edt x471 true]⟩ (by kernel_rfl) trivial ?_
      refine WO_nil rfl ?_
      refine thenS_n ?_
      refine W_seq ?_
      refine bindO_e h (fun b562 hv563 h => ?_)
      refine W_cut (Q' := fun (e : Exit) (s : St) => e = .normal ∧ s = ⟨[(0, .one (.e (.sl 0 0 x1.length))), (5, .one (.e (.sl 2 0 x507.length))), (9, .one (.e (.sl 3 0 x471.length))), (10, I i508), (87, B b562)], [.row .nod x1 false, .row .nod x2 false, .row .edt x507 true, .row .edt x471 true]⟩) ?_ ?_
      · refine iteO_e hv563 (fun hb559 hv563 => ?_) (fun hb559 hv563 => ?_)
        · refine W_draw [] true (by kernel_rfl) (by kernel_rfl) ?_
          refine WD_takeK [0, 1, 2] [0, 5, 9, 10, 11, 75] [0, 5, 9, 10, 11, 75] (φ := (True ∧ True ∧ True)) (ls' := #[true, true, true, false, false, false, false, false, false, false, false, false, false, false, false]) (Ts' := [(0, .one (.e (.sl 0 0 x1.length))), (5, .one (.e (.sl 2 0 x507.length))), (9, .one (.e (.sl 3 0 x471.length))), (10, I i508), (11, I i557), (75, B (decide (i557 < 0)))]) (st' := ⟨[(0, .one (.e (.sl 0 0 x1.length))), (5, .one (.e (.sl 2 0 x507.length))), (9, .one (.e (.sl 3 0 x471.length))), (10, I i508), (11, I i557), (75, B (decide (i557 < 0)))], [.row .nod x1 false, .row .nod x2 false, .row .edt x507 true, .row .edt x471 true]⟩) (n2 := 12) (by kernel_rfl) ⟨trivial, trivial, trivial⟩ rfl ?_
          refine WD_known 75 true rfl rfl hb559 ?_
          refine WD_takeK [3, 4, 5, 6, 7, 8, 9, 10, 11, 12, 13, 14] [0, 5, 9, 10, 87] [0, 5, 9, 10, 87] (φ := True) (ls' := #[true, true, true, true, true, true, true, true, true, true, true, true, true, true, true]) (Ts' := [(0, .one (.e (.sl 0 0 x1.length))), (5, .one (.e (.sl 2 0 x507.length))), (9, .one (.e (.sl 3 0 x471.length))), (10, I i508), (87, B true)]) (st' := ⟨[(0, .one (.e (.sl 0 0 x1.length))), (5, .one (.e (.sl 2 0 x507.length))), (9, .one (.e (.sl 3 0 x471.length))), (10, I i508), (87, B true)], [.row .nod x1 false, .row .nod x2 false, .row .edt x507 true, .row .edt x471 true]⟩) (n2 := 0) (by kernel_rfl) trivial rfl ?_
          exact WD_done [0, 1, 2, 3] [0, 5, 9, 10, 87] (st' := ⟨[(0, .one (.e (.sl 0 0 x1.length))), (5, .one (.e (.sl 2 0 x507.length))), (9, .one (.e (.sl 3 0 x471.length))), (10, I i508), (87, B true)], [.row .nod x1 false, .row .nod x2 false, .row .edt x507 true, .row .edt x471 true]⟩) (by kernel_rfl) (by kernel_rfl) (And.intro rfl (by cases hv563; rfl))
        · refine guardO_e hv563 (fun hg560 hv563 => ?_)
          refine guardO_e hv563 (fun hg561 hv563 => ?_)
          refine W_draw [] true (by kernel_rfl) (by kernel_rfl) ?_
          refine WD_takeK [0, 1, 2] [0, 5, 9, 10, 11, 75] [0, 5, 9, 10, 11, 75] (φ := (True ∧ True ∧ True)) (ls' := #[true, true, true, false, false, false, false, false, false, false, false, false, false, false, false]) (Ts' := [(0, .one (.e (.sl 0 0 x1.length))), (5, .one (.e (.sl 2 0 x507.length))), (9, .one (.e (.sl 3 0 x471.length))), (10, I i508), (11, I i557), (75, B (decide (i557 < 0)))]) (st' := ⟨[(0, .one (.e (.sl 0 0 x1.length))), (5, .one (.e (.sl 2 0 x507.length))), (9, .one (.e (.sl 3 0 x471.length))), (10, I i508), (11, I i557), (75, B (decide (i557 < 0)))], [.row .nod x1 false, .row .nod x2 false, .row .edt x507 true, .row .edt x471 true]⟩) (n2 := 12) (by kernel_rfl) ⟨trivial, trivial, trivial⟩ rfl ?_
          refine WD_known 75 false rfl rfl hb559 ?_
          refine WD_takeK [3, 4, 5, 6, 7, 8, 9, 10, 11, 12, 13, 14] [0, 5, 9, 10, 87] [0, 5, 9, 10, 87] (φ := ((0 ≤ i557 ∧ i557 < ((x1.length : Nat) : Int)) ∧ (0 ≤ i557 ∧ i557 < ((x1.length : Nat) : Int)) ∧ (True ∧ True ∧ ((0 ≤ i508 ∧ i508 < ((x471.length : Nat) : Int)) ∧ (0 ≤ i508 ∧ i508 < ((x471.length : Nat) : Int)) ∧ (True ∧ True ∧ (True ∧ True ∧ True)))))) (ls' := #[true, true, true, true, true, true, true, true, true, true, true, true, true, true, true]) (Ts' := [(0, .one (.e (.sl 0 0 x1.length))), (5, .one (.e (.sl 2 0 x507.length))), (9, .one (.e (.sl 3 0 x471.length))), (10, I i508), (87, B (!decide (((x1.getD i557.toNat dnod).value) = ((x471.getD i508.toNat dedt).value))))]) (st' := ⟨[(0, .one (.e (.sl 0 0 x1.length))), (5, .one (.e (.sl 2 0 x507.length))), (9, .one (.e (.sl 3 0 x471.length))), (10, I i508), (87, B (!decide (((x1.getD i557.toNat dnod).value) = ((x471.getD i508.toNat dedt).value))))], [.row .nod x1 false, .row .nod x2 false, .row .edt x507 true, .row .edt x471 true]⟩) (n2 := 0) (by kernel_rfl) ⟨hg560, hg560, trivial, trivial, hg561, hg561, trivial, trivial, trivial, trivial, trivial⟩ rfl ?_
          exact WD_done [0, 1, 2, 3] [0, 5, 9, 10, 87] (st' := ⟨[(0, .one (.e (.sl 0 0 x1.length))), (5, .one (.e (.sl 2 0 x507.length))), (9, .one (.e (.sl 3 0 x471.length))), (10, I i508), (87, B (!decide (((x1.getD i557.toNat dnod).value) = ((x471.getD i508.toNat dedt).value))))], [.row .nod x1 false, .row .nod x2 false, .row .edt x507 true, .row .edt x471 true]⟩) (by kernel_rfl) (by kernel_rfl) (And.intro rfl (by cases hv563; rfl))
      · rintro _ _ ⟨rfl, rfl⟩
        refine thenS_n ?_
        refine bindO_e h (fun x567 hx567 h => ?_)
        refine W_cut (Q' := fun (e : Exit) (s : St) => e = .normal ∧ s = ⟨[(0, .one (.e (.sl 0 0 x1.length))), (5, .one (.e (.sl 2 0 x567.length))), (9, .one (.e (.sl 3 0 x471.length))), (10, I i508)], [.row .nod x1 false, .row .nod x2 false, .row .edt x567 true, .row .edt x471 true]⟩) ?_ ?_
        · refine iteO_e hx567 (fun hb569 hx567 => W_true rfl hb569 ?_) (fun hb569 hx567 => W_false rfl hb569 ?_)
          · refine W_region ?_
            refine guardO_e hx567 (fun hg570 hx567 => ?_)
            refine guardO_e hx567 (fun hg571 hx567 => ?_)
            refine WO_step 8 [0, 1, 5, 3] [0, 5, 9, 10] ((0 ≤ i508 ∧ i508 < ((x471.length : Nat) : Int)) ∧ (True ∧ ((0 = 0 ∧ x507.length = x507.length ∧ x507.length + (([(⟨(x471.getD i508.toNat dedt).kind, (x471.getD i508.toNat dedt).path, (x471.getD i508.toNat dedt).value⟩ : Edt)].drop 0).take ([(⟨(x471.getD i508.toNat dedt).kind, (x471.getD i508.toNat dedt).path, (x471.getD i508.toNat dedt).value⟩ : Edt)].length)).length ≤ 1099511627776) ∧ True))) ⟨[(0, .one (.e (.sl 0 0 x1.length))), (5, .one (.e (.sl 2 0 ((x507 ++ (([(⟨(x471.getD i508.toNat dedt).kind, (x471.getD i508.toNat dedt).path, (x471.getD i508.toNat dedt).value⟩ : Edt)].drop 0).take ([(⟨(x471.getD i508.toNat dedt).kind, (x471.getD i508.toNat dedt).path, (x471.getD i508.toNat dedt).value⟩ : Edt)].length))).length)))), (9, .one (.e (.sl 3 0 x471.length))), (10, I i508)], [.row .nod x1 false, .row .nod x2 false, .row .edt (x507 ++ (([(⟨(x471.getD i508.toNat dedt).kind, (x471.getD i508.toNat dedt).path, (x471.getD i508.toNat dedt).value⟩ : Edt)].drop 0).take ([(⟨(x471.getD i508.toNat dedt).kind, (x471.getD i508.toNat dedt).path, (x471.getD i508.toNat dedt).value⟩ : Edt)].length))) true, .row .edt x471 true]⟩ (by kernel_rfl) ⟨hg570, trivial, hg571, trivial⟩ ?_
            refine WO_nil rfl ?_
            cases hx567
            exact And.intro rfl rfl
          · refine W_sub [0, 1, 2, 3] [0, 5, 9, 10] (st' := ⟨[(0, .one (.e (.sl 0 0 x1.length))), (5, .one (.e (.sl 2 0 x507.length))), (9, .one (.e (.sl 3 0 x471.length))), (10, I i508)], [.row .nod x1 false, .row .nod x2 false, .row .edt x507 true, .row .edt x471 true]⟩) (by kernel_rfl) ?_
            refine W_skip ?_
            cases hx567
            exact And.intro rfl rfl
        · rintro _ _ ⟨rfl, rfl⟩
          refine blockS_n ?_
          refine thenS_n ?_
          refine W_region ?_
          refine WO_step 3 [0, 1, 2, 3] [0, 5, 9, 10] (True ∧ True) ⟨[(0, .one (.e (.sl 0 0 x1.length))), (5, .one (.e (.sl 2 0 x567.length))), (9, .one (.e (.sl 3 0 x471.length))), (10, I (w64 (i508 + 1)))], [.row .nod x1 false, .row .nod x2 false, .row .edt x567 true, .row .edt x471 true]⟩ (by kernel_rfl) ⟨trivial, trivial⟩ ?_
          refine WO_nil rfl ?_
          refine thenS_n ?_
          exact ih _ _ h
    · refine W_sub [0, 1, 2] [5] (st' := ⟨[(5, .one (.e (.sl 2 0 x507.length)))], [.row .nod x1 false, .row .nod x2 false, .row .edt x507 true]⟩) (by kernel_rfl) ?_
      refine W_exit ?_
      refine thenS_e ?_
      refine thenS_e ?_
      cases h
      exact And.intro rfl rfl

def spec_EditsBetween (n : Nat) (x1 : List Nod) (x2 : List Nod) : Option ((List Edt)) :=
 bindO (spec_validTree n x1) fun b284 =>
 bindO (iteO (!b284)
 (some true)
 (bindO (spec_validTree n x2) fun b292 =>
 some (!b292))) fun b289 =>
 iteO b289
 (some ([] : List Edt))
 (bindO (spec_walk n x1 0) fun x296 =>
 bindO (spec_EditsBetween_L1 x1 x2 x296 n ([] : List Edt) 1) fun x412 =>
 bindO (spec_entries n x2) fun x471 =>
 bindO (spec_EditsBetween_L2 x1 x471 x2 n x412 0) fun x539 =>
 some x539)

theorem spec_EditsBetween_ok (n : Nat) (x1 : List Nod) (x2 : List Nod) (x283 : List Edt) (h : spec_EditsBetween n x1 x2 = some x283) : FOk EE 7 [.one (.e (.sl 0 0 x1.length)), .one (.e (.sl 1 0 x2.length))] [.row .nod x1 false, .row .nod x2 false] (.one (.e (.sl 2 0 x283.length))) [.row .nod x1 false, .row .nod x2 false, .row .edt x283 true] := by
  unfold spec_EditsBetween at h
  refine FOk_of_W 96 2 Try.func7 rfl rfl (Nat.le_of_ble_eq_true rfl) rfl (fun w X θ => ?_)
  refine W_seq ?_
  refine W_region ?_
  refine WO_step 1 [0, 1] [0, 1] True ⟨[(0, .one (.e (.sl 0 0 x1.length))), (1, .one (.e (.sl 1 0 x2.length)))], [.row .nod x1 false, .row .nod x2 false]⟩ (by kernel_rfl) trivial ?_
  refine WO_nil rfl ?_
  refine thenS_n ?_
  refine W_seq ?_
  refine W_region ?_
  refine WO_step 2 [0, 1, 2] [0, 1, 5] True ⟨[(0, .one (.e (.sl 0 0 x1.length))), (1, .one (.e (.sl 1 0 x2.length))), (5, .one (.e (.sl 2 0 (([] : List Edt).length))))], [.row .nod x1 false, .row .nod x2 false, .row .edt ([] : List Edt) true]⟩ (by kernel_rfl) trivial ?_
  refine WO_nil rfl ?_
  refine thenS_n ?_
  refine W_seq ?_
  refine W_seq ?_
  refine W_region ?_
  refine WO_step 1 [0, 1, 2] [0, 1, 5, 13] True ⟨[(0, .one (.e (.sl 0 0 x1.length))), (1, .one (.e (.sl 1 0 x2.length))), (5, .one (.e (.sl 2 0 (([] : List Edt).length)))), (13, .one (.e (.sl 0 0 x1.length)))], [.row .nod x1 false, .row .nod x2 false, .row .edt ([] : List Edt) true]⟩ (by kernel_rfl) trivial ?_
  refine bindO_e h (fun b284 hc285 h => ?_)
  refine WO_call [.ro 0] Try.f21 rfl rfl rfl (by kernel_rfl) Try.func21 rfl (by kernel_rfl) (spec_validTree_ok n x1 b284 hc285) (And.intro (And.intro rfl rfl) (trivial)) rfl ?_
  refine WO_step 2 [0, 1, 2] [0, 1, 5, 16] True ⟨[(0, .one (.e (.sl 0 0 x1.length))), (1, .one (.e (.sl 1 0 x2.length))), (5, .one (.e (.sl 2 0 (([] : List Edt).length)))), (16, B (!b284))], [.row .nod x1 false, .row .nod x2 false, .row .edt ([] : List Edt) true]⟩ (by kernel_rfl) trivial ?_
  refine bindO_e h (fun b289 hv290 h => ?_)
  refine WO_thru ⟨[(0, .one (.e (.sl 0 0 x1.length))), (1, .one (.e (.sl 1 0 x2.length))), (5, .one (.e (.sl 2 0 (([] : List Edt).length)))), (20, B b289)], [.row .nod x1 false, .row .nod x2 false, .row .edt ([] : List Edt) true]⟩ ?_ ?_
  · refine iteO_e hv290 (fun hb291 hv290 => WO_known 16 true rfl hb291 ?_) (fun hb291 hv290 => WO_known 16 false rfl hb291 ?_)
    · refine WO_step 4 [0, 1, 2] [0, 1, 5, 20] True ⟨[(0, .one (.e (.sl 0 0 x1.length))), (1, .one (.e (.sl 1 0 x2.length))), (5, .one (.e (.sl 2 0 (([] : List Edt).length)))), (20, B true)], [.row .nod x1 false, .row .nod x2 false, .row .edt ([] : List Edt) true]⟩ (by kernel_rfl) trivial ?_
      cases hv290
      exact WO_nil rfl ⟨rfl, rfl⟩
    · refine WO_step 1 [0, 1, 2] [0, 1, 5, 16, 17] True ⟨[(0, .one (.e (.sl 0 0 x1.length))), (1, .one (.e (.sl 1 0 x2.length))), (5, .one (.e (.sl 2 0 (([] : List Edt).length)))), (16, B false), (17, .one (.e (.sl 1 0 x2.length)))], [.row .nod x1 false, .row .nod x2 false, .row .edt ([] : List Edt) true]⟩ (by kernel_rfl) trivial ?_
      refine bindO_e hv290 (fun b292 hc293 hv290 => ?_)
      refine WO_call [.ro 1] Try.f21 rfl rfl rfl (by kernel_rfl) Try.func21 rfl (by kernel_rfl) (spec_validTree_ok n x2 b292 hc293) (And.intro (And.intro rfl rfl) (trivial)) rfl ?_
      refine WO_step 2 [0, 1, 2] [0, 1, 5, 20] True ⟨[(0, .one (.e (.sl 0 0 x1.length))), (1, .one (.e (.sl 1 0 x2.length))), (5, .one (.e (.sl 2 0 (([] : List Edt).length)))), (20, B (!b292))], [.row .nod x1 false, .row .nod x2 false, .row .edt ([] : List Edt) true]⟩ (by kernel_rfl) trivial ?_
      cases hv290
      exact WO_nil rfl ⟨rfl, rfl⟩
  · refine thenS_n ?_
    refine iteO_e h (fun hb295 h => W_true rfl hb295 ?_) (fun hb295 h => W_false rfl hb295 ?_)
    · refine W_seq ?_
      refine W_region ?_
      refine WO_step 1 [0, 1] [4] True ⟨[(4, .one (.e (.nsl)))], [.row .nod x1 false, .row .nod x2 false]⟩ (by kernel_rfl) trivial ?_
      refine WO_nilrow 4 .edt rfl ?_
      refine WO_sub [0, 1, 2] [4] (st' := ⟨[(4, .one (.e (.sl 2 0 (([] : List Edt).length))))], [.row .nod x1 false, .row .nod x2 false, .row .edt ([] : List Edt) true]⟩) (by kernel_rfl) ?_
      refine WO_nil rfl ?_
      refine thenS_n ?_
      refine W_ret ?_
      refine thenS_r ?_
      cases h
      exact ⟨[0, 1, 2], True, by kernel_rfl, trivial⟩
    · refine W_sub [0, 1, 2] [0, 1, 5] (st' := ⟨[(0, .one (.e (.sl 0 0 x1.length))), (1, .one (.e (.sl 1 0 x2.length))), (5, .one (.e (.sl 2 0 (([] : List Edt).length))))], [.row .nod x1 false, .row .nod x2 false, .row .edt ([] : List Edt) true]⟩) (by kernel_rfl) ?_
      refine W_skip ?_
      refine thenS_n ?_
      refine W_seq ?_
      refine W_region ?_
      refine WO_step 1 [0, 1, 2] [0, 1, 5, 21] True ⟨[(0, .one (.e (.sl 0 0 x1.length))), (1, .one (.e (.sl 1 0 x2.length))), (5, .one (.e (.sl 2 0 (([] : List Edt).length)))), (21, .one (.e (.sl 0 0 x1.length)))], [.row .nod x1 false, .row .nod x2 false, .row .edt ([] : List Edt) true]⟩ (by kernel_rfl) trivial ?_
      refine bindO_e h (fun x296 hc297 h => ?_)
      refine WO_call [.ro 0] Try.f22 rfl rfl rfl (by kernel_rfl) Try.func22 rfl (by kernel_rfl) (spec_walk_ok n x1 0 x296 hc297) (And.intro (And.intro rfl rfl) (trivial)) rfl ?_
      refine WO_step 1 [0, 1, 2, 3] [0, 1, 5, 6] True ⟨[(0, .one (.e (.sl 0 0 x1.length))), (1, .one (.e (.sl 1 0 x2.length))), (5, .one (.e (.sl 2 0 (([] : List Edt).length)))), (6, .one (.e (.sl 3 0 x296.length)))], [.row .nod x1 false, .row .nod x2 false, .row .edt ([] : List Edt) true, .row .int x296 true]⟩ (by kernel_rfl) trivial ?_
      refine WO_nil rfl ?_
      refine thenS_n ?_
      refine W_seq ?_
      refine W_seq ?_
      refine W_region ?_
      refine WO_step 1 [0, 1, 2, 3] [0, 1, 5, 6, 7] True ⟨[(0, .one (.e (.sl 0 0 x1.length))), (1, .one (.e (.sl 1 0 x2.length))), (5, .one (.e (.sl 2 0 (([] : List Edt).length)))), (6, .one (.e (.sl 3 0 x296.length))), (7, I 1)], [.row .nod x1 false, .row .nod x2 false, .row .edt ([] : List Edt) true, .row .int x296 true]⟩ (by kernel_rfl) trivial ?_
      refine WO_nil rfl ?_
      refine thenS_n ?_
      refine W_block ?_
      refine W_loop ?_
      refine bindO_e h (fun x412 hx412 h => ?_)
      refine WL_cut (spec_EditsBetween_L1_ok w X θ x1 x2 x296 x412 n ([] : List Edt) 1 hx412) ?_
      rintro _ _ ⟨rfl, rfl⟩
      refine blockS_y ?_
      refine thenS_n ?_
      refine W_seq ?_
      refine W_region ?_
      refine WO_step 1 [0, 1, 2] [0, 5, 58] True ⟨[(0, .one (.e (.sl 0 0 x1.length))), (5, .one (.e (.sl 2 0 x412.length))), (58, .one (.e (.sl 1 0 x2.length)))], [.row .nod x1 false, .row .nod x2 false, .row .edt x412 true]⟩ (by kernel_rfl) trivial ?_
      refine bindO_e h (fun x471 hc472 h => ?_)
      refine WO_call [.ro 1] Try.f25 rfl rfl rfl (by kernel_rfl) Try.func25 rfl (by kernel_rfl) (spec_entries_ok n x2 x471 hc472) (And.intro (And.intro rfl rfl) (trivial)) rfl ?_
      refine WO_step 1 [0, 1, 2, 3] [0, 5, 9] True ⟨[(0, .one (.e (.sl 0 0 x1.length))), (5, .one (.e (.sl 2 0 x412.length))), (9, .one (.e (.sl 3 0 x471.length)))], [.row .nod x1 false, .row .nod x2 false, .row .edt x412 true, .row .edt x471 true]⟩ (by kernel_rfl) trivial ?_
      refine WO_nil rfl ?_
      refine thenS_n ?_
      refine W_seq ?_
      refine W_seq ?_
      refine W_region ?_
      refine WO_step 1 [0, 1, 2, 3] [0, 5, 9, 10] True ⟨[(0, .one (.e (.sl 0 0 x1.length))), (5, .one (.e (.sl 2 0 x412.length))), (9, .one (.e (.sl 3 0 x471.length))), (10, I 0)], [.row .nod x1 false, .row .nod x2 false, .row .edt x412 true, .row .edt x471 true]⟩ (by kernel_rfl) trivial ?_
      refine WO_nil rfl ?_
      refine thenS_n ?_
      refine W_block ?_
      refine W_loop ?_
      refine bindO_e h (fun x539 hx539 h => ?_)
      refine WL_cut (spec_EditsBetween_L2_ok w X θ x1 x471 x2 x539 n x412 0 hx539) ?_
      rintro _ _ ⟨rfl, rfl⟩
      refine blockS_y ?_
      refine thenS_n ?_
      refine W_seq ?_
      refine W_region ?_
      refine WO_step 2 [0, 1, 2] [4] True ⟨[(4, .one (.e (.sl 2 0 x539.length)))], [.row .nod x1 false, .row .nod x2 false, .row .edt x539 true]⟩ (by kernel_rfl) trivial ?_
      refine WO_nil rfl ?_
      refine thenS_n ?_
      refine W_ret ?_
      cases h
      exact ⟨[0, 1, 2], True, by kernel_rfl, trivial⟩

/- impl.within -/
def impl_within (i1 : Int) (i2 : Int) (i3 : Int) : Bool :=
((decide (i2 ≤ i1)) && (decide (i1 ≤ i3)))

theorem impl_within_ok (i1 : Int) (i2 : Int) (i3 : Int) : FOk EE 37 [I i1, I i2, I i3] [] (B (impl_within i1 i2 i3)) [] := by
  refine FOk_of_W 15 0 Try.func37 rfl rfl (Nat.le_of_ble_eq_true rfl) rfl (fun w X θ => ?_)
  refine W_seq ?_
  refine W_region ?_
  refine WO_step 1 [] [0, 1, 2] True ⟨[(0, I i1), (1, I i2), (2, I i3)], []⟩ (by kernel_rfl) trivial ?_
  refine WO_nil rfl ?_
  refine thenS_n ?_
  refine W_seq ?_
  refine W_region ?_
  refine WO_step 4 [] [0, 2, 10] (True ∧ True) ⟨[(0, I i1), (2, I i3), (10, B (decide (i2 ≤ i1)))], []⟩ (by kernel_rfl) ⟨trivial, trivial⟩ ?_
  refine WO_thru ⟨[(6, B ((decide (i2 ≤ i1)) && (decide (i1 ≤ i3))))], []⟩ ?_ ?_
  · refine WO_if 10 rfl (fun hb10 => ?_) (fun hb10 => ?_)
    · refine WO_step 5 [] [6] (True ∧ True) ⟨[(6, B (decide (i1 ≤ i3)))], []⟩ (by kernel_rfl) ⟨trivial, trivial⟩ ?_
      exact WO_nil rfl ⟨rfl, by first | rfl | (rw [hb10]; first | done | rfl)⟩
    · refine WO_step 5 [] [6] True ⟨[(6, B false)], []⟩ (by kernel_rfl) trivial ?_
      exact WO_nil rfl ⟨rfl, by first | rfl | (rw [hb10]; first | done | rfl)⟩
  · refine thenS_n ?_
    refine W_ret ?_
    exact ⟨[], True, by kernel_rfl, trivial⟩

/- impl.isName -/
def impl_isName_L1 (s1 : Str) : Nat → Int → Option ((Unit) ⊕ (Unit))
| 0, _ => none
| n + 1, i96 =>
 iteO (decide (i96 < ((s1.length : Nat) : Int)))
 (guardO (0 ≤ i96 ∧ i96 < ((s1.length : Nat) : Int)) <|
 bindO (iteO (decide (((s1.getD i96.toNat 0).toNat : Int) < 97))
 (some true)
 (guardO (0 ≤ i96 ∧ i96 < ((s1.length : Nat) : Int)) <|
 some (decide (122 < ((s1.getD i96.toNat 0).toNat : Int))))) fun b133 =>
 iteO b133
 (some (.inl ()))
 (impl_isName_L1 s1 n (w64 (i96 + 1))))
 (some (.inr ()))

theorem impl_isName_L1_ok (w : World) (X : Nat → Prop) (θ : List Loc) (s1 : Str) (v : (Unit) ⊕ (Unit)) : ∀ (n : Nat) (i96 : Int), impl_isName_L1 s1 n i96 = some v → WL EE ⟨w, X, θ, 24, 0⟩ (subC [1, 1, 0, 1, 4, 4] (bodyC Try.f38)) (fun (e : Exit) (s : St) => (match v with | (.inl _) => e = .ret ∧ s = ⟨[(2, B false)], []⟩ | (.inr _) => e = .exit 0 ∧ s = ⟨[], []⟩ : Prop)) ⟨[(0, S s1), (9, I ((s1.length : Nat) : Int)), (10, I i96)], []⟩ := by
  intro n
  induction n with
  | zero => intro _ h; exact none_e h
  | succ n ih =>
    intro i96 h
    rw [impl_isName_L1] at h
    refine WL_round ?_
    refine W_seq ?_
    refine W_region ?_
    refine WO_step 1 [] [0, 9, 10, 11] (True ∧ True) ⟨[(0, S s1), (9, I ((s1.length : Nat) : Int)), (10, I i96), (11, B (decide (i96 < ((s1.length : Nat) : Int))))], []⟩ (by kernel_rfl) ⟨trivial, trivial⟩ ?_
    refine WO_nil rfl ?_
    refine thenS_n ?_
    refine W_seq ?_
    refine iteO_e h (fun hb120 h => W_true rfl hb120 ?_) (fun hb120 h => W_false rfl hb120 ?_)
    · refine W_sub [] [0, 9, 10] (st' := ⟨[(0, S s1), (9, I ((s1.length : Nat) : Int)), (10, I i96)], []⟩) (by kernel_rfl) ?_
      refine W_skip ?_
      refine thenS_n ?_
      refine W_seq ?_
      refine W_block ?_
      refine W_seq ?_
      refine W_region ?_
      refine WO_step 2 [] [0, 3, 9, 10] True ⟨[(0, S s1), (3, I i96), (9, I ((s1.length : Nat) : Int)), (10, I i96)], []⟩ (by kernel_rfl) trivial ?_
      refine WO_nil rfl ?_
      refine thenS_n ?_
      refine W_seq ?_
      refine W_region ?_
      refine guardO_e h (fun hg130 h => ?_)
      refine WO_step 5 [] [0, 3, 9, 10, 17] ((0 ≤ i96 ∧ i96 < ((s1.length : Nat) : Int)) ∧ (True ∧ True)) ⟨[(0, S s1), (3, I i96), (9, I ((s1.length : Nat) : Int)), (10, I i96), (17, B (decide (((s1.getD i96.toNat 0).toNat : Int) < 97)))], []⟩ (by kernel_rfl) ⟨hg130, trivial, trivial⟩ ?_
      refine bindO_e h (fun b133 hv134 h => ?_)
      refine WO_thru ⟨[(0, S s1), (9, I ((s1.length : Nat) : Int)), (10, I i96), (22, B b133)], []⟩ ?_ ?_
      · refine iteO_e hv134 (fun hb135 hv134 => WO_known 17 true rfl hb135 ?_) (fun hb135 hv134 => WO_known 17 false rfl hb135 ?_)
        · refine WO_step 5 [] [0, 9, 10, 22] True ⟨[(0, S s1), (9, I ((s1.length : Nat) : Int)), (10, I i96), (22, B true)], []⟩ (by kernel_rfl) trivial ?_
          cases hv134
          exact WO_nil rfl ⟨rfl, rfl⟩
        · refine guardO_e hv134 (fun hg136 hv134 => ?_)
          refine WO_step 5 [] [0, 9, 10, 22] ((0 ≤ i96 ∧ i96 < ((s1.length : Nat) : Int)) ∧ (True ∧ True)) ⟨[(0, S s1), (9, I ((s1.length : Nat) : Int)), (10, I i96), (22, B (decide (122 < ((s1.getD i96.toNat 0).toNat : Int))))], []⟩ (by kernel_rfl) ⟨hg136, trivial, trivial⟩ ?_
          cases hv134
          exact WO_nil rfl ⟨rfl, rfl⟩
      · refine thenS_n ?_
        refine iteO_e h (fun hb138 h => W_true rfl hb138 ?_) (fun hb138 h => W_false rfl hb138 ?_)
        · refine W_seq ?_
          refine W_region ?_
          refine WO_step 1 [] [2] True ⟨[(2, B false)], []⟩ (by kernel_rfl) trivial ?_
          refine WO_nil rfl ?_
          refine thenS_n ?_
          refine W_ret ?_
          refine blockS_r ?_
          refine thenS_r ?_
          refine thenS_r ?_
          cases h
          exact And.intro rfl rfl
        · refine W_sub [] [0, 9, 10] (st' := ⟨[(0, S s1), (9, I ((s1.length : Nat) : Int)), (10, I i96)], []⟩) (by kernel_rfl) ?_
          refine W_skip ?_
          refine blockS_n ?_
          refine thenS_n ?_
          refine W_region ?_
          refine WO_step 2 [] [0, 9, 10] (True ∧ True) ⟨[(0, S s1), (9, I ((s1.length : Nat) : Int)), (10, I (w64 (i96 + 1)))], []⟩ (by kernel_rfl) ⟨trivial, trivial⟩ ?_
          refine WO_nil rfl ?_
          refine thenS_n ?_
          exact ih _ h
    · refine W_sub [] [] (st' := ⟨[], []⟩) (by kernel_rfl) ?_
      refine W_exit ?_
      refine thenS_e ?_
      refine thenS_e ?_
      cases h
      exact And.intro rfl rfl

def impl_isName (n : Nat) (s1 : Str) : Option (Bool) :=
 iteO (!(impl_within ((s1.length : Nat) : Int) 1 4))
 (some false)
 (bindO (impl_isName_L1 s1 n 0) fun v139 =>
 match v139 with
 | (.inl _) => (some false)
 | (.inr _) => (some true)
)

theorem impl_isName_ok (n : Nat) (s1 : Str) (b70 : Bool) (h : impl_isName n s1 = some b70) : FOk EE 38 [S s1] [] (B b70) [] := by
  unfold impl_isName at h
  refine FOk_of_W 24 0 Try.func38 rfl rfl (Nat.le_of_ble_eq_true rfl) rfl (fun w X θ => ?_)
  refine W_seq ?_
  refine W_region ?_
  refine WO_step 1 [] [0] True ⟨[(0, S s1)], []⟩ (by kernel_rfl) trivial ?_
  refine WO_nil rfl ?_
  refine thenS_n ?_
  refine W_seq ?_
  refine W_seq ?_
  refine W_region ?_
  refine WO_step 2 [] [0, 5] (True ∧ True) ⟨[(0, S s1), (5, I ((s1.length : Nat) : Int))], []⟩ (by kernel_rfl) ⟨trivial, trivial⟩ ?_
  refine WO_call [] Try.f37 rfl rfl rfl (by kernel_rfl) Try.func37 rfl (by kernel_rfl) (impl_within_ok ((s1.length : Nat) : Int) 1 4) (trivial) rfl ?_
  refine WO_step 1 [] [0, 7] True ⟨[(0, S s1), (7, B (!(impl_within ((s1.length : Nat) : Int) 1 4)))], []⟩ (by kernel_rfl) trivial ?_
  refine WO_nil rfl ?_
  refine thenS_n ?_
  refine iteO_e h (fun hb72 h => W_true rfl hb72 ?_) (fun hb72 h => W_false rfl hb72 ?_)
  · refine W_seq ?_
    refine W_region ?_
    refine WO_step 1 [] [2] True ⟨[(2, B false)], []⟩ (by kernel_rfl) trivial ?_
    refine WO_nil rfl ?_
    refine thenS_n ?_
    refine W_ret ?_
    refine thenS_r ?_
    cases h
    exact ⟨[], True, by kernel_rfl, trivial⟩
  · refine W_sub [] [0] (st' := ⟨[(0, S s1)], []⟩) (by kernel_rfl) ?_
    refine W_skip ?_
    refine thenS_n ?_
    refine W_seq ?_
    refine W_seq ?_
    refine W_region ?_
    refine WO_step 3 [] [0, 9, 10] (True ∧ True) ⟨[(0, S s1), (9, I ((s1.length : Nat) : Int)), (10, I 0)], []⟩ (by kernel_rfl) ⟨trivial, trivial⟩ ?_
    refine WO_nil rfl ?_
    refine thenS_n ?_
    refine W_block ?_
    refine W_loop ?_
    refine bindO_e h (fun v139 hv139 h => ?_)
    refine WL_cut (impl_isName_L1_ok w X θ s1 v139 n 0 hv139) ?_
    rcases v139 with _ | _
    · rintro _ _ ⟨rfl, rfl⟩
      refine blockS_r ?_
      refine thenS_r ?_
      cases h
      exact ⟨[], True, by kernel_rfl, trivial⟩
    · rintro _ _ ⟨rfl, rfl⟩
      refine blockS_y ?_
      refine thenS_n ?_
      refine W_seq ?_
      refine W_region ?_
      refine WO_step 1 [] [2] True ⟨[(2, B true)], []⟩ (by kernel_rfl) trivial ?_
      refine WO_nil rfl ?_
      refine thenS_n ?_
      refine W_ret ?_
      cases h
      exact ⟨[], True, by kernel_rfl, trivial⟩

/- impl.kidIn -/
def impl_kidIn_L1 (i2 : Int) (s3 : Str) (x1 : List Nod) : Nat → Int → Option ((Int) ⊕ (Unit))
| 0, _ => none
| n + 1, i73 =>
 iteO (decide (i73 < ((x1.length : Nat) : Int)))
 (guardO (0 ≤ i73 ∧ i73 < ((x1.length : Nat) : Int)) <|
 iteO ((decide (((x1.getD i73.toNat dnod).parent) = i2)) && (decide (((x1.getD i73.toNat dnod).name) = s3)))
 (some (.inl i73))
 (impl_kidIn_L1 i2 s3 x1 n (w64 (i73 + 1))))
 (some (.inr ()))

theorem impl_kidIn_L1_ok (w : World) (X : Nat → Prop) (θ : List Loc) (i2 : Int) (s3 : Str) (x1 : List Nod) (v : (Int) ⊕ (Unit)) : ∀ (n : Nat) (i73 : Int), impl_kidIn_L1 i2 s3 x1 n i73 = some v → WL EE ⟨w, X, θ, 28, 1⟩ (subC [1, 0, 1, 4, 4] (bodyC Try.f39)) (fun (e : Exit) (s : St) => (match v with | (.inl i89) => e = .ret ∧ s = ⟨[(6, I i89)], [.row .nod x1 false]⟩ | (.inr _) => e = .exit 0 ∧ s = ⟨[], [.row .nod x1 false]⟩ : Prop)) ⟨[(1, I i2), (2, S s3), (9, .one (.e (.sl 0 0 x1.length))), (10, I ((x1.length : Nat) : Int)), (11, I i73)], [.row .nod x1 false]⟩ := by
  intro n
  induction n with
  | zero => intro _ h; exact none_e h
  | succ n ih =>
    intro i73 h
    rw [impl_kidIn_L1] at h
    refine WL_round ?_
    refine W_seq ?_
    refine W_region ?_
    refine WO_step 1 [0] [1, 2, 9, 10, 11, 12] (True ∧ True) ⟨[(1, I i2), (2, S s3), (9, .one (.e (.sl 0 0 x1.length))), (10, I ((x1.length : Nat) : Int)), (11, I i73), (12, B (decide (i73 < ((x1.length : Nat) : Int))))], [.row .nod x1 false]⟩ (by kernel_rfl) ⟨trivial, trivial⟩ ?_
    refine WO_nil rfl ?_
    refine thenS_n ?_
    refine W_seq ?_
    refine iteO_e h (fun hb92 h => W_true rfl hb92 ?_) (fun hb92 h => W_false rfl hb92 ?_)
    · refine W_sub [0] [1, 2, 9, 10, 11] (st' := ⟨[(1, I i2), (2, S s3), (9, .one (.e (.sl 0 0 x1.length))), (10, I ((x1.length : Nat) : Int)), (11, I i73)], [.row .nod x1 false]⟩) (by kernel_rfl) ?_
      refine W_skip ?_
      refine thenS_n ?_
      refine W_seq ?_
      refine W_block ?_
      refine W_seq ?_
      refine W_region ?_
      refine guardO_e h (fun hg99 h => ?_)
      refine WO_step 6 [0, 1] [1, 2, 7, 8, 9, 10, 11] ((0 ≤ i73 ∧ i73 < ((x1.length : Nat) : Int)) ∧ (True ∧ (True ∧ (True ∧ True)))) ⟨[(1, I i2), (2, S s3), (7, I i73), (8, .one (.e (.p 1 0))), (9, .one (.e (.sl 0 0 x1.length))), (10, I ((x1.length : Nat) : Int)), (11, I i73)], [.row .nod x1 false, .cells [cI ((x1.getD i73.toNat dnod).parent), cS ((x1.getD i73.toNat dnod).name), cI ((x1.getD i73.toNat dnod).value)]]⟩ (by kernel_rfl) ⟨hg99, trivial, trivial, trivial, trivial⟩ ?_
      refine WO_nil rfl ?_
      refine thenS_n ?_
      refine W_seq ?_
      refine W_region ?_
      refine WO_step 5 [0, 1] [1, 2, 7, 8, 9, 10, 11, 20] (True ∧ (True ∧ True)) ⟨[(1, I i2), (2, S s3), (7, I i73), (8, .one (.e (.p 1 0))), (9, .one (.e (.sl 0 0 x1.length))), (10, I ((x1.length : Nat) : Int)), (11, I i73), (20, B (decide (((x1.getD i73.toNat dnod).parent) = i2)))], [.row .nod x1 false, .cells [cI ((x1.getD i73.toNat dnod).parent), cS ((x1.getD i73.toNat dnod).name), cI ((x1.getD i73.toNat dnod).value)]]⟩ (by kernel_rfl) ⟨trivial, trivial, trivial⟩ ?_
      refine WO_thru ⟨[(1, I i2), (2, S s3), (7, I i73), (9, .one (.e (.sl 0 0 x1.length))), (10, I ((x1.length : Nat) : Int)), (11, I i73), (25, B ((decide (((x1.getD i73.toNat dnod).parent) = i2)) && (decide (((x1.getD i73.toNat dnod).name) = s3))))], [.row .nod x1 false]⟩ ?_ ?_
      · refine WO_if 20 rfl (fun hb102 => ?_) (fun hb102 => ?_)
        · refine WO_step 5 [0] [1, 2, 7, 9, 10, 11, 25] (True ∧ (True ∧ True)) ⟨[(1, I i2), (2, S s3), (7, I i73), (9, .one (.e (.sl 0 0 x1.length))), (10, I ((x1.length : Nat) : Int)), (11, I i73), (25, B (decide (((x1.getD i73.toNat dnod).name) = s3)))], [.row .nod x1 false]⟩ (by kernel_rfl) ⟨trivial, trivial, trivial⟩ ?_
          exact WO_nil rfl ⟨rfl, by first | rfl | (rw [hb102]; first | done | rfl)⟩
        · refine WO_step 5 [0] [1, 2, 7, 9, 10, 11, 25] True ⟨[(1, I i2), (2, S s3), (7, I i73), (9, .one (.e (.sl 0 0 x1.length))), (10, I ((x1.length : Nat) : Int)), (11, I i73), (25, B false)], [.row .nod x1 false]⟩ (by kernel_rfl) trivial ?_
          exact WO_nil rfl ⟨rfl, by first | rfl | (rw [hb102]; first | done | rfl)⟩
      · refine thenS_n ?_
        refine iteO_e h (fun hb104 h => W_true rfl hb104 ?_) (fun hb104 h => W_false rfl hb104 ?_)
        · refine W_seq ?_
          refine W_region ?_
          refine WO_step 2 [0] [6] True ⟨[(6, I i73)], [.row .nod x1 false]⟩ (by kernel_rfl) trivial ?_
          refine WO_nil rfl ?_
          refine thenS_n ?_
          refine W_ret ?_
          refine blockS_r ?_
          refine thenS_r ?_
          refine thenS_r ?_
          cases h
          exact And.intro rfl rfl
        · refine W_sub [0] [1, 2, 9, 10, 11] (st' := ⟨[(1, I i2), (2, S s3), (9, .one (.e (.sl 0 0 x1.length))), (10, I ((x1.length : Nat) : Int)), (11, I i73)], [.row .nod x1 false]⟩) (by kernel_rfl) ?_
          refine W_skip ?_
          refine blockS_n ?_
          refine thenS_n ?_
          refine W_region ?_
          refine WO_step 2 [0] [1, 2, 9, 10, 11] (True ∧ True) ⟨[(1, I i2), (2, S s3), (9, .one (.e (.sl 0 0 x1.length))), (10, I ((x1.length : Nat) : Int)), (11, I (w64 (i73 + 1)))], [.row .nod x1 false]⟩ (by kernel_rfl) ⟨trivial, trivial⟩ ?_
          refine WO_nil rfl ?_
          refine thenS_n ?_
          exact ih _ h
    · refine W_sub [0] [] (st' := ⟨[], [.row .nod x1 false]⟩) (by kernel_rfl) ?_
      refine W_exit ?_
      refine thenS_e ?_
      refine thenS_e ?_
      cases h
      exact And.intro rfl rfl

def impl_kidIn (n : Nat) (x1 : List Nod) (i2 : Int) (s3 : Str) : Option (Int) :=
 bindO (impl_kidIn_L1 i2 s3 x1 n 0) fun v105 =>
 match v105 with
 | (.inl i89) => (some i89)
 | (.inr _) => (some (-1))


theorem impl_kidIn_ok (n : Nat) (x1 : List Nod) (i2 : Int) (s3 : Str) (i54 : Int) (h : impl_kidIn n x1 i2 s3 = some i54) : FOk EE 39 [.one (.e (.sl 0 0 x1.length)), I i2, S s3] [.row .nod x1 false] (I i54) [.row .nod x1 false] := by
  unfold impl_kidIn at h
  refine FOk_of_W 28 1 Try.func39 rfl rfl (Nat.le_of_ble_eq_true rfl) rfl (fun w X θ => ?_)
  refine W_seq ?_
  refine W_region ?_
  refine WO_step 1 [0] [0, 1, 2] True ⟨[(0, .one (.e (.sl 0 0 x1.length))), (1, I i2), (2, S s3)], [.row .nod x1 false]⟩ (by kernel_rfl) trivial ?_
  refine WO_nil rfl ?_
  refine thenS_n ?_
  refine W_seq ?_
  refine W_seq ?_
  refine W_region ?_
  refine WO_step 3 [0] [1, 2, 9, 10, 11] (True ∧ True) ⟨[(1, I i2), (2, S s3), (9, .one (.e (.sl 0 0 x1.length))), (10, I ((x1.length : Nat) : Int)), (11, I 0)], [.row .nod x1 false]⟩ (by kernel_rfl) ⟨trivial, trivial⟩ ?_
  refine WO_nil rfl ?_
  refine thenS_n ?_
  refine W_block ?_
  refine W_loop ?_
  refine bindO_e h (fun v105 hv105 h => ?_)
  refine WL_cut (impl_kidIn_L1_ok w X θ i2 s3 x1 v105 n 0 hv105) ?_
  rcases v105 with i89 | _
  · rintro _ _ ⟨rfl, rfl⟩
    refine blockS_r ?_
    refine thenS_r ?_
    cases h
    exact ⟨[0], True, by kernel_rfl, trivial⟩
  · rintro _ _ ⟨rfl, rfl⟩
    refine blockS_y ?_
    refine thenS_n ?_
    refine W_seq ?_
    refine W_region ?_
    refine WO_step 1 [0] [6] True ⟨[(6, I (-1))], [.row .nod x1 false]⟩ (by kernel_rfl) trivial ?_
    refine WO_nil rfl ?_
    refine thenS_n ?_
    refine W_ret ?_
    cases h
    exact ⟨[0], True, by kernel_rfl, trivial⟩

/- impl.ValidTree -/
def impl_ValidTree_L1 (x1 : List Nod) : Nat → (List Int) → Int → Option ((Unit) ⊕ (Unit))
| 0, _, _ => none
| n + 1, x164, i165 =>
 iteO (decide (i165 < ((x1.length : Nat) : Int)))
 (bindO (guardO (0 ≤ i165 ∧ i165 < ((x1.length : Nat) : Int)) <|
 iteO (!(impl_within ((x1.getD i165.toNat dnod).value) (-1000) 1000))
 (some (.inl ()))
 (iteO (decide (i165 = 0))
 (some (.inr x164))
 (bindO (iteO (!(impl_within ((x1.getD i165.toNat dnod).parent) 0 (w64 (i165 - 1))))
 (some true)
 (bindO (impl_isName n ((x1.getD i165.toNat dnod).name)) fun b238 =>
 some (!b238))) fun b235 =>
 iteO b235
 (some (.inl ()))
 (guardO (0 ≤ i165 ∧ i165 ≤ ((x1.length : Nat) : Int)) <|
 bindO (impl_kidIn n ((x1.drop 0).take i165.toNat) ((x1.getD i165.toNat dnod).parent) ((x1.getD i165.toNat dnod).name)) fun i243 =>
 iteO (decide (0 ≤ i243))
 (some (.inl ()))
 (guardO (0 ≤ (x1.getD i165.toNat dnod).parent ∧ (x1.getD i165.toNat dnod).parent < ((x164.length : Nat) : Int)) <|
 guardO (0 ≤ i165 ∧ i165 < ((x164.length : Nat) : Int)) <|
 guardO (0 ≤ i165 ∧ i165 < (((x164.set i165.toNat (w64 ((x164.getD (((x1.getD i165.toNat dnod).parent).toNat) 0) + 1))).length : Nat) : Int)) <|
 iteO (decide (4 < ((x164.set i165.toNat (w64 ((x164.getD (((x1.getD i165.toNat dnod).parent).toNat) 0) + 1))).getD i165.toNat 0)))
 (some (.inl ()))
 (some (.inr (x164.set i165.toNat (w64 ((x164.getD (((x1.getD i165.toNat dnod).parent).toNat) 0) + 1))))))))) : Option ((Unit) ⊕ ((List Int)))) fun v226 =>
 match v226 with
 | (.inl _) => (some (.inl ()))
 | (.inr x225) => (impl_ValidTree_L1 x1 n x225 (w64 (i165 + 1)))
)
 (some (.inr ()))

theorem impl_ValidTree_L1_ok (w : World) (X : Nat → Prop) (θ : List Loc) (x1 : List Nod) (v : (Unit) ⊕ (Unit)) : ∀ (n : Nat) (x164 : List Int) (i165 : Int), impl_ValidTree_L1 x1 n x164 i165 = some v → WL EE ⟨w, X, θ, 78, 1⟩ (subC [1, 1, 1, 1, 0, 1, 4, 4] (bodyC Try.f17)) (fun (e : Exit) (s : St) => (match v with | (.inl _) => e = .ret ∧ s = ⟨[(2, B false)], [.row .nod x1 false]⟩ | (.inr _) => e = .exit 0 ∧ s = ⟨[], [.row .nod x1 false]⟩ : Prop)) ⟨[(0, .one (.e (.sl 0 0 x1.length))), (3, .one (.e (.sl 1 0 x164.length))), (29, .one (.e (.sl 0 0 x1.length))), (30, I ((x1.length : Nat) : Int)), (31, I i165)], [.row .nod x1 false, .row .int x164 true]⟩ := by
  intro n
  induction n with
  | zero => intro _ _ h; exact none_e h
  | succ n ih =>
    intro x164 i165 h
    rw [impl_ValidTree_L1] at h
    refine WL_round ?_
    refine W_seq ?_
    refine W_region ?_
    refine WO_step 1 [0, 1] [0, 3, 29, 30, 31, 32] (True ∧ True) ⟨[(0, .one (.e (.sl 0 0 x1.length))), (3, .one (.e (.sl 1 0 x164.length))), (29, .one (.e (.sl 0 0 x1.length))), (30, I ((x1.length : Nat) : Int)), (31, I i165), (32, B (decide (i165 < ((x1.length : Nat) : Int))))], [.row .nod x1 false, .row .int x164 true]⟩ (by kernel_rfl) ⟨trivial, trivial⟩ ?_
    refine WO_nil rfl ?_
    refine thenS_n ?_
    refine W_seq ?_
    refine iteO_e h (fun hb199 h => W_true rfl hb199 ?_) (fun hb199 h => W_false rfl hb199 ?_)
    · refine W_sub [0, 1] [0, 3, 29, 30, 31] (st' := ⟨[(0, .one (.e (.sl 0 0 x1.length))), (3, .one (.e (.sl 1 0 x164.length))), (29, .one (.e (.sl 0 0 x1.length))), (30, I ((x1.length : Nat) : Int)), (31, I i165)], [.row .nod x1 false, .row .int x164 true]⟩) (by kernel_rfl) ?_
      refine W_skip ?_
      refine thenS_n ?_
      refine W_seq ?_
      refine bindO_e h (fun v226 hv226 h => ?_)
      refine W_cut (Q' := fun (e : Exit) (s : St) => (match v226 with | (.inl _) => e = .ret ∧ s = ⟨[(2, B false)], [.row .nod x1 false]⟩ | (.inr x225) => e = .normal ∧ s = ⟨[(0, .one (.e (.sl 0 0 x1.length))), (3, .one (.e (.sl 1 0 x225.length))), (29, .one (.e (.sl 0 0 x1.length))), (30, I ((x1.length : Nat) : Int)), (31, I i165)], [.row .nod x1 false, .row .int x225 true]⟩ : Prop)) ?_ ?_
      · refine W_block ?_
        refine W_seq ?_
        refine W_region ?_
        refine guardO_e hv226 (fun hg227 hv226 => ?_)
        refine WO_step 6 [0, 1, 2] [0, 3, 4, 5, 29, 30, 31] ((0 ≤ i165 ∧ i165 < ((x1.length : Nat) : Int)) ∧ (True ∧ (True ∧ (True ∧ True)))) ⟨[(0, .one (.e (.sl 0 0 x1.length))), (3, .one (.e (.sl 1 0 x164.length))), (4, I i165), (5, .one (.e (.p 2 0))), (29, .one (.e (.sl 0 0 x1.length))), (30, I ((x1.length : Nat) : Int)), (31, I i165)], [.row .nod x1 false, .row .int x164 true, .cells [cI ((x1.getD i165.toNat dnod).parent), cS ((x1.getD i165.toNat dnod).name), cI ((x1.getD i165.toNat dnod).value)]]⟩ (by kernel_rfl) ⟨hg227, trivial, trivial, trivial, trivial⟩ ?_
        refine WO_nil rfl ?_
        refine thenS_n ?_
        refine W_seq ?_
        refine W_seq ?_
        refine W_region ?_
        refine WO_step 2 [0, 1, 2] [0, 3, 4, 5, 29, 30, 31, 37] (True ∧ True) ⟨[(0, .one (.e (.sl 0 0 x1.length))), (3, .one (.e (.sl 1 0 x164.length))), (4, I i165), (5, .one (.e (.p 2 0))), (29, .one (.e (.sl 0 0 x1.length))), (30, I ((x1.length : Nat) : Int)), (31, I i165), (37, I ((x1.getD i165.toNat dnod).value))], [.row .nod x1 false, .row .int x164 true, .cells [cI ((x1.getD i165.toNat dnod).parent), cS ((x1.getD i165.toNat dnod).name), cI ((x1.getD i165.toNat dnod).value)]]⟩ (by kernel_rfl) ⟨trivial, trivial⟩ ?_
        refine WO_call [] Try.f37 rfl rfl rfl (by kernel_rfl) Try.func37 rfl (by kernel_rfl) (impl_within_ok ((x1.getD i165.toNat dnod).value) (-1000) 1000) (trivial) rfl ?_
        refine WO_step 1 [0, 1, 2] [0, 3, 4, 5, 29, 30, 31, 39] True ⟨[(0, .one (.e (.sl 0 0 x1.length))), (3, .one (.e (.sl 1 0 x164.length))), (4, I i165), (5, .one (.e (.p 2 0))), (29, .one (.e (.sl 0 0 x1.length))), (30, I ((x1.length : Nat) : Int)), (31, I i165), (39, B (!(impl_within ((x1.getD i165.toNat dnod).value) (-1000) 1000)))], [.row .nod x1 false, .row .int x164 true, .cells [cI ((x1.getD i165.toNat dnod).parent), cS ((x1.getD i165.toNat dnod).name), cI ((x1.getD i165.toNat dnod).value)]]⟩ (by kernel_rfl) trivial ?_
        refine WO_nil rfl ?_
        refine thenS_n ?_
        refine iteO_e hv226 (fun hb229 hv226 => W_true rfl hb229 ?_) (fun hb229 hv226 => W_false rfl hb229 ?_)
        · refine W_seq ?_
          refine W_region ?_
          refine WO_step 1 [0] [2] True ⟨[(2, B false)], [.row .nod x1 false]⟩ (by kernel_rfl) trivial ?_
          refine WO_nil rfl ?_
          refine thenS_n ?_
          refine W_ret ?_
          refine thenS_r ?_
          refine blockS_r ?_
          cases hv226
          exact And.intro rfl rfl
        · refine W_sub [0, 1, 2] [0, 3, 4, 5, 29, 30, 31] (st' := ⟨[(0, .one (.e (.sl 0 0 x1.length))), (3, .one (.e (.sl 1 0 x164.length))), (4, I i165), (5, .one (.e (.p 2 0))), (29, .one (.e (.sl 0 0 x1.length))), (30, I ((x1.length : Nat) : Int)), (31, I i165)], [.row .nod x1 false, .row .int x164 true, .cells [cI ((x1.getD i165.toNat dnod).parent), cS ((x1.getD i165.toNat dnod).name), cI ((x1.getD i165.toNat dnod).value)]]⟩) (by kernel_rfl) ?_
          refine W_skip ?_
          refine thenS_n ?_
          refine W_seq ?_
          refine W_seq ?_
          refine W_region ?_
          refine WO_step 2 [0, 1, 2] [0, 3, 4, 5, 29, 30, 31, 41] (True ∧ True) ⟨[(0, .one (.e (.sl 0 0 x1.length))), (3, .one (.e (.sl 1 0 x164.length))), (4, I i165), (5, .one (.e (.p 2 0))), (29, .one (.e (.sl 0 0 x1.length))), (30, I ((x1.length : Nat) : Int)), (31, I i165), (41, B (decide (i165 = 0)))], [.row .nod x1 false, .row .int x164 true, .cells [cI ((x1.getD i165.toNat dnod).parent), cS ((x1.getD i165.toNat dnod).name), cI ((x1.getD i165.toNat dnod).value)]]⟩ (by kernel_rfl) ⟨trivial, trivial⟩ ?_
          refine WO_nil rfl ?_
          refine thenS_n ?_
          refine iteO_e hv226 (fun hb231 hv226 => W_true rfl hb231 ?_) (fun hb231 hv226 => W_false rfl hb231 ?_)
          · refine W_sub [0, 1] [0, 3, 29, 30, 31] (st' := ⟨[(0, .one (.e (.sl 0 0 x1.length))), (3, .one (.e (.sl 1 0 x164.length))), (29, .one (.e (.sl 0 0 x1.length))), (30, I ((x1.length : Nat) : Int)), (31, I i165)], [.row .nod x1 false, .row .int x164 true]⟩) (by kernel_rfl) ?_
            refine W_exit ?_
            refine thenS_e ?_
            refine blockS_y ?_
            cases hv226
            exact And.intro rfl rfl
          · refine W_sub [0, 1, 2] [0, 3, 4, 5, 29, 30, 31] (st' := ⟨[(0, .one (.e (.sl 0 0 x1.length))), (3, .one (.e (.sl 1 0 x164.length))), (4, I i165), (5, .one (.e (.p 2 0))), (29, .one (.e (.sl 0 0 x1.length))), (30, I ((x1.length : Nat) : Int)), (31, I i165)], [.row .nod x1 false, .row .int x164 true, .cells [cI ((x1.getD i165.toNat dnod).parent), cS ((x1.getD i165.toNat dnod).name), cI ((x1.getD i165.toNat dnod).value)]]⟩) (by kernel_rfl) ?_
            refine W_skip ?_
            refine thenS_n ?_
            refine W_seq ?_
            refine W_seq ?_
            refine W_region ?_
            refine WO_step 4 [0, 1, 2] [0, 3, 4, 5, 29, 30, 31, 43, 45] (True ∧ (True ∧ True)) ⟨[(0, .one (.e (.sl 0 0 x1.length))), (3, .one (.e (.sl 1 0 x164.length))), (4, I i165), (5, .one (.e (.p 2 0))), (29, .one (.e (.sl 0 0 x1.length))), (30, I ((x1.length : Nat) : Int)), (31, I i165), (43, I ((x1.getD i165.toNat dnod).parent)), (45, I (w64 (i165 - 1)))], [.row .nod x1 false, .row .int x164 true, .cells [cI ((x1.getD i165.toNat dnod).parent), cS ((x1.getD i165.toNat dnod).name), cI ((x1.getD i165.toNat dnod).value)]]⟩ (by kernel_rfl) ⟨trivial, trivial, trivial⟩ ?_
            refine WO_call [] Try.f37 rfl rfl rfl (by kernel_rfl) Try.func37 rfl (by kernel_rfl) (impl_within_ok ((x1.getD i165.toNat dnod).parent) 0 (w64 (i165 - 1))) (trivial) rfl ?_
            refine WO_step 2 [0, 1, 2] [0, 3, 4, 5, 29, 30, 31, 48] True ⟨[(0, .one (.e (.sl 0 0 x1.length))), (3, .one (.e (.sl 1 0 x164.length))), (4, I i165), (5, .one (.e (.p 2 0))), (29, .one (.e (.sl 0 0 x1.length))), (30, I ((x1.length : Nat) : Int)), (31, I i165), (48, B (!(impl_within ((x1.getD i165.toNat dnod).parent) 0 (w64 (i165 - 1)))))], [.row .nod x1 false, .row .int x164 true, .cells [cI ((x1.getD i165.toNat dnod).parent), cS ((x1.getD i165.toNat dnod).name), cI ((x1.getD i165.toNat dnod).value)]]⟩ (by kernel_rfl) trivial ?_
            refine bindO_e hv226 (fun b235 hv236 hv226 => ?_)
            refine WO_thru ⟨[(0, .one (.e (.sl 0 0 x1.length))), (3, .one (.e (.sl 1 0 x164.length))), (4, I i165), (5, .one (.e (.p 2 0))), (29, .one (.e (.sl 0 0 x1.length))), (30, I ((x1.length : Nat) : Int)), (31, I i165), (53, B b235)], [.row .nod x1 false, .row .int x164 true, .cells [cI ((x1.getD i165.toNat dnod).parent), cS ((x1.getD i165.toNat dnod).name), cI ((x1.getD i165.toNat dnod).value)]]⟩ ?_ ?_
            · refine iteO_e hv236 (fun hb237 hv236 => WO_known 48 true rfl hb237 ?_) (fun hb237 hv236 => WO_known 48 false rfl hb237 ?_)
              · refine WO_step 5 [0, 1, 2] [0, 3, 4, 5, 29, 30, 31, 53] True ⟨[(0, .one (.e (.sl 0 0 x1.length))), (3, .one (.e (.sl 1 0 x164.length))), (4, I i165), (5, .one (.e (.p 2 0))), (29, .one (.e (.sl 0 0 x1.length))), (30, I ((x1.length : Nat) : Int)), (31, I i165), (53, B true)], [.row .nod x1 false, .row .int x164 true, .cells [cI ((x1.getD i165.toNat dnod).parent), cS ((x1.getD i165.toNat dnod).name), cI ((x1.getD i165.toNat dnod).value)]]⟩ (by kernel_rfl) trivial ?_
                cases hv236
                exact WO_nil rfl ⟨rfl, rfl⟩
              · refine WO_step 2 [0, 1, 2] [0, 3, 4, 5, 29, 30, 31, 48, 50] (True ∧ True) ⟨[(0, .one (.e (.sl 0 0 x1.length))), (3, .one (.e (.sl 1 0 x164.length))), (4, I i165), (5, .one (.e (.p 2 0))), (29, .one (.e (.sl 0 0 x1.length))), (30, I ((x1.length : Nat) : Int)), (31, I i165), (48, B false), (50, S ((x1.getD i165.toNat dnod).name))], [.row .nod x1 false, .row .int x164 true, .cells [cI ((x1.getD i165.toNat dnod).parent), cS ((x1.getD i165.toNat dnod).name), cI ((x1.getD i165.toNat dnod).value)]]⟩ (by kernel_rfl) ⟨trivial, trivial⟩ ?_
                refine bindO_e hv236 (fun b238 hc239 hv236 => ?_)
                refine WO_call [] Try.f38 rfl rfl rfl (by kernel_rfl) Try.func38 rfl (by kernel_rfl) (impl_isName_ok n ((x1.getD i165.toNat dnod).name) b238 hc239) (trivial) rfl ?_
                refine WO_step 2 [0, 1, 2] [0, 3, 4, 5, 29, 30, 31, 53] True ⟨[(0, .one (.e (.sl 0 0 x1.length))), (3, .one (.e (.sl 1 0 x164.length))), (4, I i165), (5, .one (.e (.p 2 0))), (29, .one (.e (.sl 0 0 x1.length))), (30, I ((x1.length : Nat) : Int)), (31, I i165), (53, B (!b238))], [.row .nod x1 false, .row .int x164 true, .cells [cI ((x1.getD i165.toNat dnod).parent), cS ((x1.getD i165.toNat dnod).name), cI ((x1.getD i165.toNat dnod).value)]]⟩ (by kernel_rfl) trivial ?_
                cases hv236
                exact WO_nil rfl ⟨rfl, rfl⟩
            · refine thenS_n ?_
              refine iteO_e hv226 (fun hb241 hv226 => W_true rfl hb241 ?_) (fun hb241 hv226 => W_false rfl hb241 ?_)
              · refine W_seq ?_
                refine W_region ?_
                refine WO_step 1 [0] [2] True ⟨[(2, B false)], [.row .nod x1 false]⟩ (by kernel_rfl) trivial ?_
                refine WO_nil rfl ?_
                refine thenS_n ?_
                refine W_ret ?_
                refine thenS_r ?_
                refine blockS_r ?_
                cases hv226
                exact And.intro rfl rfl
              · refine W_sub [0, 1, 2] [0, 3, 4, 5, 29, 30, 31] (st' := ⟨[(0, .one (.e (.sl 0 0 x1.length))), (3, .one (.e (.sl 1 0 x164.length))), (4, I i165), (5, .one (.e (.p 2 0))), (29, .one (.e (.sl 0 0 x1.length))), (30, I ((x1.length : Nat) : Int)), (31, I i165)], [.row .nod x1 false, .row .int x164 true, .cells [cI ((x1.getD i165.toNat dnod).parent), cS ((x1.getD i165.toNat dnod).name), cI ((x1.getD i165.toNat dnod).value)]]⟩) (by kernel_rfl) ?_
                refine W_skip ?_
                refine thenS_n ?_
                refine W_seq ?_
                refine W_seq ?_
                refine guardO_e hv226 (fun hg242 hv226 => ?_)
                refine bindO_e hv226 (fun i243 hc244 hv226 => ?_)
                refine W_cut (Q' := fun (e : Exit) (s : St) => e = .normal ∧ s = ⟨[(0, .one (.e (.sl 0 0 x1.length))), (3, .one (.e (.sl 1 0 x164.length))), (4, I i165), (5, .one (.e (.p 2 0))), (29, .one (.e (.sl 0 0 x1.length))), (30, I ((x1.length : Nat) : Int)), (31, I i165), (62, B (decide (0 ≤ i243)))], [.row .nod x1 false, .row .int x164 true, .cells [cI ((x1.getD i165.toNat dnod).parent), cS ((x1.getD i165.toNat dnod).name), cI ((x1.getD i165.toNat dnod).value)]]⟩) ?_ ?_
                · refine W_draw [] false (by kernel_rfl) (by kernel_rfl) ?_
                  refine WD_takeK [0, 1, 3, 4, 5, 6] [0, 3, 4, 5, 29, 30, 31, 54, 55, 58, 60] [0, 3, 4, 5, 29, 30, 31, 54, 55, 58, 60] (φ := (True ∧ True ∧ (True ∧ True ∧ True))) (ls' := #[true, true, false, true, true, true, true, false, false]) (Ts' := [(0, .one (.e (.sl 0 0 x1.length))), (3, .one (.e (.sl 1 0 x164.length))), (4, I i165), (5, .one (.e (.p 2 0))), (29, .one (.e (.sl 0 0 x1.length))), (30, I ((x1.length : Nat) : Int)), (31, I i165), (54, .one (.e (.sl 0 0 x1.length))), (55, I i165), (58, I ((x1.getD i165.toNat dnod).parent)), (60, S ((x1.getD i165.toNat dnod).name))]) (st' := ⟨[(0, .one (.e (.sl 0 0 x1.length))), (3, .one (.e (.sl 1 0 x164.length))), (4, I i165), (5, .one (.e (.p 2 0))), (29, .one (.e (.sl 0 0 x1.length))), (30, I ((x1.length : Nat) : Int)), (31, I i165), (54, .one (.e (.sl 0 0 x1.length))), (55, I i165), (58, I ((x1.getD i165.toNat dnod).parent)), (60, S ((x1.getD i165.toNat dnod).name))], [.row .nod x1 false, .row .int x164 true, .cells [cI ((x1.getD i165.toNat dnod).parent), cS ((x1.getD i165.toNat dnod).name), cI ((x1.getD i165.toNat dnod).value)]]⟩) (n2 := 3) (by kernel_rfl) ⟨trivial, trivial, trivial, trivial, trivial⟩ rfl ?_
                  refine WD_all [2] (n := 2) (by kernel_rfl) rfl ?_
                  refine WM_op (φ := 0 ≤ i165 ∧ i165 ≤ ((x1.length : Nat) : Int)) (v := .one (.e (.sl 0 0 i165.toNat))) (H' := [.row .nod x1 false, .row .int x164 true, .cells [cI ((x1.getD i165.toNat dnod).parent), cS ((x1.getD i165.toNat dnod).name), cI ((x1.getD i165.toNat dnod).value)]]) rfl rfl (by kernel_rfl) hg242 rfl (And.intro rfl (And.intro rfl (And.intro (And.intro rfl rfl) (trivial)))) ?_
                  refine WD_all [7] (n := 1) (by kernel_rfl) rfl ?_
                  refine WM_call [.view 0] Try.f39 rfl rfl (by kernel_rfl) Try.func39 rfl (by kernel_rfl) (impl_kidIn_ok n ((x1.drop 0).take i165.toNat) ((x1.getD i165.toNat dnod).parent) ((x1.getD i165.toNat dnod).name) i243 hc244) (trivial) rfl (And.intro rfl (And.intro rfl (And.intro (And.intro rfl rfl) (trivial)))) ?_
                  refine WD_takeK [8] [0, 3, 4, 5, 29, 30, 31, 62] [0, 3, 4, 5, 29, 30, 31, 62] (φ := (True ∧ True ∧ True)) (ls' := #[true, true, true, true, true, true, true, true, true]) (Ts' := [(0, .one (.e (.sl 0 0 x1.length))), (3, .one (.e (.sl 1 0 x164.length))), (4, I i165), (5, .one (.e (.p 2 0))), (29, .one (.e (.sl 0 0 x1.length))), (30, I ((x1.length : Nat) : Int)), (31, I i165), (62, B (decide (0 ≤ i243)))]) (st' := ⟨[(0, .one (.e (.sl 0 0 x1.length))), (3, .one (.e (.sl 1 0 x164.length))), (4, I i165), (5, .one (.e (.p 2 0))), (29, .one (.e (.sl 0 0 x1.length))), (30, I ((x1.length : Nat) : Int)), (31, I i165), (62, B (decide (0 ≤ i243)))], [.row .nod x1 false, .row .int x164 true, .cells [cI ((x1.getD i165.toNat dnod).parent), cS ((x1.getD i165.toNat dnod).name), cI ((x1.getD i165.toNat dnod).value)]]⟩) (n2 := 0) (by kernel_rfl) ⟨trivial, trivial, trivial⟩ rfl ?_
                  exact WD_done [0, 1, 2] [0, 3, 4, 5, 29, 30, 31, 62] (st' := ⟨[(0, .one (.e (.sl 0 0 x1.length))), (3, .one (.e (.sl 1 0 x164.length))), (4, I i165), (5, .one (.e (.p 2 0))), (29, .one (.e (.sl 0 0 x1.length))), (30, I ((x1.length : Nat) : Int)), (31, I i165), (62, B (decide (0 ≤ i243)))], [.row .nod x1 false, .row .int x164 true, .cells [cI ((x1.getD i165.toNat dnod).parent), cS ((x1.getD i165.toNat dnod).name), cI ((x1.getD i165.toNat dnod).value)]]⟩) (by kernel_rfl) (by kernel_rfl) (And.intro rfl rfl)
                · rintro _ _ ⟨rfl, rfl⟩
                  refine thenS_n ?_
                  refine iteO_e hv226 (fun hb246 hv226 => W_true rfl hb246 ?_) (fun hb246 hv226 => W_false rfl hb246 ?_)
                  · refine W_seq ?_
                    refine W_region ?_
                    refine WO_step 1 [0] [2] True ⟨[(2, B false)], [.row .nod x1 false]⟩ (by kernel_rfl) trivial ?_
                    refine WO_nil rfl ?_
                    refine thenS_n ?_
                    refine W_ret ?_
                    refine thenS_r ?_
                    refine blockS_r ?_
                    cases hv226
                    exact And.intro rfl rfl
                  · refine W_sub [0, 1, 2] [0, 3, 4, 5, 29, 30, 31] (st' := ⟨[(0, .one (.e (.sl 0 0 x1.length))), (3, .one (.e (.sl 1 0 x164.length))), (4, I i165), (5, .one (.e (.p 2 0))), (29, .one (.e (.sl 0 0 x1.length))), (30, I ((x1.length : Nat) : Int)), (31, I i165)], [.row .nod x1 false, .row .int x164 true, .cells [cI ((x1.getD i165.toNat dnod).parent), cS ((x1.getD i165.toNat dnod).name), cI ((x1.getD i165.toNat dnod).value)]]⟩) (by kernel_rfl) ?_
                    refine W_skip ?_
                    refine thenS_n ?_
                    refine W_seq ?_
                    refine W_region ?_
                    refine guardO_e hv226 (fun hg247 hv226 => ?_)
                    refine guardO_e hv226 (fun hg248 hv226 => ?_)
                    refine WO_step 10 [0, 1] [0, 3, 4, 29, 30, 31] (True ∧ ((0 ≤ (x1.getD i165.toNat dnod).parent ∧ (x1.getD i165.toNat dnod).parent < ((x164.length : Nat) : Int)) ∧ (True ∧ (True ∧ ((0 ≤ i165 ∧ i165 < ((x164.length : Nat) : Int)) ∧ (True ∧ True)))))) ⟨[(0, .one (.e (.sl 0 0 x1.length))), (3, .one (.e (.sl 1 0 x164.length))), (4, I i165), (29, .one (.e (.sl 0 0 x1.length))), (30, I ((x1.length : Nat) : Int)), (31, I i165)], [.row .nod x1 false, .row .int (x164.set i165.toNat (w64 ((x164.getD (((x1.getD i165.toNat dnod).parent).toNat) 0) + 1))) true]⟩ (by kernel_rfl) ⟨trivial, hg247, trivial, trivial, hg248, trivial, trivial⟩ ?_
                    refine WO_eq (st' := ⟨[(0, .one (.e (.sl 0 0 x1.length))), (3, .one (.e (.sl 1 0 ((x164.set i165.toNat (w64 ((x164.getD (((x1.getD i165.toNat dnod).parent).toNat) 0) + 1))).length)))), (4, I i165), (29, .one (.e (.sl 0 0 x1.length))), (30, I ((x1.length : Nat) : Int)), (31, I i165)], [.row .nod x1 false, .row .int (x164.set i165.toNat (w64 ((x164.getD (((x1.getD i165.toNat dnod).parent).toNat) 0) + 1))) true]⟩) (by simp only [List.length_set]) ?_
                    refine WO_nil rfl ?_
                    refine thenS_n ?_
                    refine W_seq ?_
                    refine W_region ?_
                    refine guardO_e hv226 (fun hg249 hv226 => ?_)
                    refine WO_step 5 [0, 1] [0, 3, 29, 30, 31, 76] ((0 ≤ i165 ∧ i165 < (((x164.set i165.toNat (w64 ((x164.getD (((x1.getD i165.toNat dnod).parent).toNat) 0) + 1))).length : Nat) : Int)) ∧ (True ∧ (True ∧ True))) ⟨[(0, .one (.e (.sl 0 0 x1.length))), (3, .one (.e (.sl 1 0 ((x164.set i165.toNat (w64 ((x164.getD (((x1.getD i165.toNat dnod).parent).toNat) 0) + 1))).length)))), (29, .one (.e (.sl 0 0 x1.length))), (30, I ((x1.length : Nat) : Int)), (31, I i165), (76, B (decide (4 < ((x164.set i165.toNat (w64 ((x164.getD (((x1.getD i165.toNat dnod).parent).toNat) 0) + 1))).getD i165.toNat 0))))], [.row .nod x1 false, .row .int (x164.set i165.toNat (w64 ((x164.getD (((x1.getD i165.toNat dnod).parent).toNat) 0) + 1))) true]⟩ (by kernel_rfl) ⟨hg249, trivial, trivial, trivial⟩ ?_
                    refine WO_nil rfl ?_
                    refine thenS_n ?_
                    refine iteO_e hv226 (fun hb251 hv226 => W_true rfl hb251 ?_) (fun hb251 hv226 => W_false rfl hb251 ?_)
                    · refine W_seq ?_
                      refine W_region ?_
                      refine WO_step 1 [0] [2] True ⟨[(2, B false)], [.row .nod x1 false]⟩ (by kernel_rfl) trivial ?_
                      refine WO_nil rfl ?_
                      refine thenS_n ?_
                      refine W_ret ?_
                      refine blockS_r ?_
                      cases hv226
                      exact And.intro rfl rfl
                    · refine W_sub [0, 1] [0, 3, 29, 30, 31] (st' := ⟨[(0, .one (.e (.sl 0 0 x1.length))), (3, .one (.e (.sl 1 0 ((x164.set i165.toNat (w64 ((x164.getD (((x1.getD i165.toNat dnod).parent).toNat) 0) + 1))).length)))), (29, .one (.e (.sl 0 0 x1.length))), (30, I ((x1.length : Nat) : Int)), (31, I i165)], [.row .nod x1 false, .row .int (x164.set i165.toNat (w64 ((x164.getD (((x1.getD i165.toNat dnod).parent).toNat) 0) + 1))) true]⟩) (by kernel_rfl) ?_
                      refine W_skip ?_
                      refine blockS_n ?_
                      cases hv226
                      exact And.intro rfl rfl
      · rcases v226 with _ | x225
        · rintro _ _ ⟨rfl, rfl⟩
          refine thenS_r ?_
          refine thenS_r ?_
          cases h
          exact And.intro rfl rfl
        · rintro _ _ ⟨rfl, rfl⟩
          refine thenS_n ?_
          refine W_region ?_
          refine WO_step 2 [0, 1] [0, 3, 29, 30, 31] (True ∧ True) ⟨[(0, .one (.e (.sl 0 0 x1.length))), (3, .one (.e (.sl 1 0 x225.length))), (29, .one (.e (.sl 0 0 x1.length))), (30, I ((x1.length : Nat) : Int)), (31, I (w64 (i165 + 1)))], [.row .nod x1 false, .row .int x225 true]⟩ (by kernel_rfl) ⟨trivial, trivial⟩ ?_
          refine WO_nil rfl ?_
          refine thenS_n ?_
          exact ih _ _ h
    · refine W_sub [0] [] (st' := ⟨[], [.row .nod x1 false]⟩) (by kernel_rfl) ?_
      refine W_exit ?_
      refine thenS_e ?_
      refine thenS_e ?_
      cases h
      exact And.intro rfl rfl

def impl_ValidTree (n : Nat) (x1 : List Nod) : Option (Bool) :=
 iteO ((decide (((x1.length : Nat) : Int) < 1)) || (decide (12 < ((x1.length : Nat) : Int))))
 (some false)
 (guardO (0 ≤ (0 : Int) ∧ (0 : Int) < ((x1.length : Nat) : Int)) <|
 bindO (iteO (!decide (((x1.getD 0 dnod).parent) = (-1)))
 (some true)
 (guardO (0 ≤ (0 : Int) ∧ (0 : Int) < ((x1.length : Nat) : Int)) <|
 some (!decide (((x1.getD 0 dnod).name) = [])))) fun b123 =>
 iteO b123
 (some false)
 (guardO ((((x1.length : Nat) : Int) : Int) = ((x1.length : Nat) : Int) ∧ 0 ≤ ((x1.length : Nat) : Int) ∧ ((x1.length : Nat) : Int) ≤ 1099511627776) <|
 bindO (impl_ValidTree_L1 x1 n (List.replicate (((x1.length : Nat) : Int).toNat) (0 : Int)) 0) fun v252 =>
 match v252 with
 | (.inl _) => (some false)
 | (.inr _) => (some true)
))

theorem impl_ValidTree_ok (n : Nat) (x1 : List Nod) (b114 : Bool) (h : impl_ValidTree n x1 = some b114) : FOk EE 17 [.one (.e (.sl 0 0 x1.length))] [.row .nod x1 false] (B b114) [.row .nod x1 false] := by
  unfold impl_ValidTree at h
  refine FOk_of_W 78 1 Try.func17 rfl rfl (Nat.le_of_ble_eq_true rfl) rfl (fun w X θ => ?_)
  refine W_seq ?_
  refine W_region ?_
  refine WO_step 1 [0] [0] True ⟨[(0, .one (.e (.sl 0 0 x1.length)))], [.row .nod x1 false]⟩ (by kernel_rfl) trivial ?_
  refine WO_nil rfl ?_
  refine thenS_n ?_
  refine W_seq ?_
  refine W_seq ?_
  refine W_region ?_
  refine WO_step 4 [0] [0, 9] (True ∧ (True ∧ True)) ⟨[(0, .one (.e (.sl 0 0 x1.length))), (9, B (decide (((x1.length : Nat) : Int) < 1)))], [.row .nod x1 false]⟩ (by kernel_rfl) ⟨trivial, trivial, trivial⟩ ?_
  refine WO_thru ⟨[(0, .one (.e (.sl 0 0 x1.length))), (13, B ((decide (((x1.length : Nat) : Int) < 1)) || (decide (12 < ((x1.length : Nat) : Int)))))], [.row .nod x1 false]⟩ ?_ ?_
  · refine WO_if 9 rfl (fun hb117 => ?_) (fun hb117 => ?_)
    · refine WO_step 4 [0] [0, 13] True ⟨[(0, .one (.e (.sl 0 0 x1.length))), (13, B true)], [.row .nod x1 false]⟩ (by kernel_rfl) trivial ?_
      exact WO_nil rfl ⟨rfl, by first | rfl | (rw [hb117]; first | done | rfl)⟩
    · refine WO_step 4 [0] [0, 13] (True ∧ (True ∧ True)) ⟨[(0, .one (.e (.sl 0 0 x1.length))), (13, B (decide (12 < ((x1.length : Nat) : Int))))], [.row .nod x1 false]⟩ (by kernel_rfl) ⟨trivial, trivial, trivial⟩ ?_
      exact WO_nil rfl ⟨rfl, by first | rfl | (rw [hb117]; first | done | rfl)⟩
  · refine thenS_n ?_
    refine iteO_e h (fun hb119 h => W_true rfl hb119 ?_) (fun hb119 h => W_false rfl hb119 ?_)
    · refine W_seq ?_
      refine W_region ?_
      refine WO_step 1 [0] [2] True ⟨[(2, B false)], [.row .nod x1 false]⟩ (by kernel_rfl) trivial ?_
      refine WO_nil rfl ?_
      refine thenS_n ?_
      refine W_ret ?_
      refine thenS_r ?_
      cases h
      exact ⟨[0], True, by kernel_rfl, trivial⟩
    · refine W_sub [0] [0] (st' := ⟨[(0, .one (.e (.sl 0 0 x1.length)))], [.row .nod x1 false]⟩) (by kernel_rfl) ?_
      refine W_skip ?_
      refine thenS_n ?_
      refine W_seq ?_
      refine W_seq ?_
      refine W_region ?_
      refine guardO_e h (fun hg120 h => ?_)
      refine WO_step 6 [0] [0, 19] ((0 ≤ (0 : Int) ∧ (0 : Int) < ((x1.length : Nat) : Int)) ∧ (True ∧ (True ∧ True))) ⟨[(0, .one (.e (.sl 0 0 x1.length))), (19, B (!decide (((x1.getD 0 dnod).parent) = (-1))))], [.row .nod x1 false]⟩ (by kernel_rfl) ⟨hg120, trivial, trivial, trivial⟩ ?_
      refine bindO_e h (fun b123 hv124 h => ?_)
      refine WO_thru ⟨[(0, .one (.e (.sl 0 0 x1.length))), (25, B b123)], [.row .nod x1 false]⟩ ?_ ?_
      · refine iteO_e hv124 (fun hb125 hv124 => WO_known 19 true rfl hb125 ?_) (fun hb125 hv124 => WO_known 19 false rfl hb125 ?_)
        · refine WO_step 6 [0] [0, 25] True ⟨[(0, .one (.e (.sl 0 0 x1.length))), (25, B true)], [.row .nod x1 false]⟩ (by kernel_rfl) trivial ?_
          cases hv124
          exact WO_nil rfl ⟨rfl, rfl⟩
        · refine guardO_e hv124 (fun hg126 hv124 => ?_)
          refine WO_step 6 [0] [0, 25] ((0 ≤ (0 : Int) ∧ (0 : Int) < ((x1.length : Nat) : Int)) ∧ (True ∧ (True ∧ True))) ⟨[(0, .one (.e (.sl 0 0 x1.length))), (25, B (!decide (((x1.getD 0 dnod).name) = [])))], [.row .nod x1 false]⟩ (by kernel_rfl) ⟨hg126, trivial, trivial, trivial⟩ ?_
          cases hv124
          exact WO_nil rfl ⟨rfl, rfl⟩
      · refine thenS_n ?_
        refine iteO_e h (fun hb128 h => W_true rfl hb128 ?_) (fun hb128 h => W_false rfl hb128 ?_)
        · refine W_seq ?_
          refine W_region ?_
          refine WO_step 1 [0] [2] True ⟨[(2, B false)], [.row .nod x1 false]⟩ (by kernel_rfl) trivial ?_
          refine WO_nil rfl ?_
          refine thenS_n ?_
          refine W_ret ?_
          refine thenS_r ?_
          cases h
          exact ⟨[0], True, by kernel_rfl, trivial⟩
        · refine W_sub [0] [0] (st' := ⟨[(0, .one (.e (.sl 0 0 x1.length)))], [.row .nod x1 false]⟩) (by kernel_rfl) ?_
          refine W_skip ?_
          refine thenS_n ?_
          refine W_seq ?_
          refine W_region ?_
          refine guardO_e h (fun hg129 h => ?_)
          refine WO_step 4 [0, 1] [0, 3] (True ∧ (((((x1.length : Nat) : Int) : Int) = ((x1.length : Nat) : Int) ∧ 0 ≤ ((x1.length : Nat) : Int) ∧ ((x1.length : Nat) : Int) ≤ 1099511627776) ∧ True)) ⟨[(0, .one (.e (.sl 0 0 x1.length))), (3, .one (.e (.sl 1 0 ((List.replicate (((x1.length : Nat) : Int).toNat) (0 : Int)).length))))], [.row .nod x1 false, .row .int (List.replicate (((x1.length : Nat) : Int).toNat) (0 : Int)) true]⟩ (by kernel_rfl) ⟨trivial, hg129, trivial⟩ ?_
          refine WO_nil rfl ?_
          refine thenS_n ?_
          refine W_seq ?_
          refine W_seq ?_
          refine W_region ?_
          refine WO_step 3 [0, 1] [0, 3, 29, 30, 31] (True ∧ True) ⟨[(0, .one (.e (.sl 0 0 x1.length))), (3, .one (.e (.sl 1 0 ((List.replicate (((x1.length : Nat) : Int).toNat) (0 : Int)).length)))), (29, .one (.e (.sl 0 0 x1.length))), (30, I ((x1.length : Nat) : Int)), (31, I 0)], [.row .nod x1 false, .row .int (List.replicate (((x1.length : Nat) : Int).toNat) (0 : Int)) true]⟩ (by kernel_rfl) ⟨trivial, trivial⟩ ?_
          refine WO_nil rfl ?_
          refine thenS_n ?_
          refine W_block ?_
          refine W_loop ?_
          refine bindO_e h (fun v252 hv252 h => ?_)
          refine WL_cut (impl_ValidTree_L1_ok w X θ x1 v252 n (List.replicate (((x1.length : Nat) : Int).toNat) (0 : Int)) 0 hv252) ?_
          rcases v252 with _ | _
          · rintro _ _ ⟨rfl, rfl⟩
            refine blockS_r ?_
            refine thenS_r ?_
            cases h
            exact ⟨[0], True, by kernel_rfl, trivial⟩
          · rintro _ _ ⟨rfl, rfl⟩
            refine blockS_y ?_
            refine thenS_n ?_
            refine W_seq ?_
            refine W_region ?_
            refine WO_step 1 [0] [2] True ⟨[(2, B true)], [.row .nod x1 false]⟩ (by kernel_rfl) trivial ?_
            refine WO_nil rfl ?_
            refine thenS_n ?_
            refine W_ret ?_
            cases h
            exact ⟨[0], True, by kernel_rfl, trivial⟩

/- impl.isNode -/
def impl_isNode (n : Nat) (x1 : List Nod) (i2 : Int) : Option (Bool) :=
 bindO (iteO (impl_within i2 0 (w64 (((x1.length : Nat) : Int) - 1)))
 (bindO (impl_ValidTree n x1) fun b18 =>
 some b18)
 (some false)) fun b15 =>
 some b15

theorem impl_isNode_ok (n : Nat) (x1 : List Nod) (i2 : Int) (b11 : Bool) (h : impl_isNode n x1 i2 = some b11) : FOk EE 46 [.one (.e (.sl 0 0 x1.length)), I i2] [.row .nod x1 false] (B b11) [.row .nod x1 false] := by
  unfold impl_isNode at h
  refine FOk_of_W 14 1 Try.func46 rfl rfl (Nat.le_of_ble_eq_true rfl) rfl (fun w X θ => ?_)
  refine W_seq ?_
  refine W_region ?_
  refine WO_step 1 [0] [0, 1] True ⟨[(0, .one (.e (.sl 0 0 x1.length))), (1, I i2)], [.row .nod x1 false]⟩ (by kernel_rfl) trivial ?_
  refine WO_nil rfl ?_
  refine thenS_n ?_
  refine W_seq ?_
  refine W_region ?_
  refine WO_step 4 [0] [0, 5, 8] (True ∧ (True ∧ True)) ⟨[(0, .one (.e (.sl 0 0 x1.length))), (5, I i2), (8, I (w64 (((x1.length : Nat) : Int) - 1)))], [.row .nod x1 false]⟩ (by kernel_rfl) ⟨trivial, trivial, trivial⟩ ?_
  refine WO_call [] Try.f37 rfl rfl rfl (by kernel_rfl) Try.func37 rfl (by kernel_rfl) (impl_within_ok i2 0 (w64 (((x1.length : Nat) : Int) - 1))) (trivial) rfl ?_
  refine WO_step 1 [0] [0, 10] True ⟨[(0, .one (.e (.sl 0 0 x1.length))), (10, B (impl_within i2 0 (w64 (((x1.length : Nat) : Int) - 1))))], [.row .nod x1 false]⟩ (by kernel_rfl) trivial ?_
  refine bindO_e h (fun b15 hv16 h => ?_)
  refine WO_thru ⟨[(4, B b15)], [.row .nod x1 false]⟩ ?_ ?_
  · refine iteO_e hv16 (fun hb17 hv16 => WO_known 10 true rfl hb17 ?_) (fun hb17 hv16 => WO_known 10 false rfl hb17 ?_)
    · refine WO_step 1 [0] [10, 11] True ⟨[(10, B true), (11, .one (.e (.sl 0 0 x1.length)))], [.row .nod x1 false]⟩ (by kernel_rfl) trivial ?_
      refine bindO_e hv16 (fun b18 hc19 hv16 => ?_)
      refine WO_call [.ro 0] Try.f17 rfl rfl rfl (by kernel_rfl) Try.func17 rfl (by kernel_rfl) (impl_ValidTree_ok n x1 b18 hc19) (And.intro (And.intro rfl rfl) (trivial)) rfl ?_
      refine WO_step 2 [0] [4] True ⟨[(4, B b18)], [.row .nod x1 false]⟩ (by kernel_rfl) trivial ?_
      cases hv16
      exact WO_nil rfl ⟨rfl, rfl⟩
    · refine WO_step 4 [0] [4] True ⟨[(4, B false)], [.row .nod x1 false]⟩ (by kernel_rfl) trivial ?_
      cases hv16
      exact WO_nil rfl ⟨rfl, rfl⟩
  · refine thenS_n ?_
    refine W_ret ?_
    cases h
    exact ⟨[0], True, by kernel_rfl, trivial⟩

/- bits.Len64 -/
def cstr1 : Str := [0, 1, 2, 2, 3, 3, 3, 3, 4, 4, 4, 4, 4, 4, 4, 4, 5, 5, 5, 5, 5, 5, 5, 5, 5, 5, 5, 5, 5, 5, 5, 5, 6, 6, 6, 6, 6, 6, 6, 6, 6, 6, 6, 6, 6, 6, 6, 6, 6, 6, 6, 6, 6, 6, 6, 6, 6, 6, 6, 6, 6, 6, 6, 6, 7, 7, 7, 7, 7, 7, 7, 7, 7, 7, 7, 7, 7, 7, 7, 7, 7, 7, 7, 7, 7, 7, 7, 7, 7, 7, 7, 7, 7, 7, 7, 7, 7, 7, 7, 7, 7, 7, 7, 7, 7, 7, 7, 7, 7, 7, 7, 7, 7, 7, 7, 7, 7, 7, 7, 7, 7, 7, 7, 7, 7, 7, 7, 7, 8, 8, 8, 8, 8, 8, 8, 8, 8, 8, 8, 8, 8, 8, 8, 8, 8, 8, 8, 8, 8, 8, 8, 8, 8, 8, 8, 8, 8, 8, 8, 8, 8, 8, 8, 8, 8, 8, 8, 8, 8, 8, 8, 8, 8, 8, 8, 8, 8, 8, 8, 8, 8, 8, 8, 8, 8, 8, 8, 8, 8, 8, 8, 8, 8, 8, 8, 8, 8, 8, 8, 8, 8, 8, 8, 8, 8, 8, 8, 8, 8, 8, 8, 8, 8, 8, 8, 8, 8, 8, 8, 8, 8, 8, 8, 8, 8, 8, 8, 8, 8, 8, 8, 8, 8, 8, 8, 8, 8, 8, 8, 8, 8, 8, 8, 8, 8, 8, 8, 8, 8, 8, 8, 8, 8, 8, 8, 8]

/- bits.Len64 -/
def bits_Len64 (i1 : Int) : Option (Int) :=
 iteO (decide (4294967296 ≤ i1))
 (none)
 (iteO (decide (65536 ≤ i1))
 (none)
 (iteO (decide (256 ≤ i1))
 (none)
 (guardO (0 ≤ (IntKind.u8.wrap i1) ∧ (IntKind.u8.wrap i1) < ((cstr1.length : Nat) : Int)) <|
 some (w64 (0 + (w64 ((cstr1.getD ((IntKind.u8.wrap i1).toNat) 0).toNat : Int)))))))

theorem bits_Len64_ok (i1 : Int) (i9 : Int) (h : bits_Len64 i1 = some i9) : FOk EE 92 [.one (.e (.c (.int .u64 i1)))] [] (I i9) [] := by
  unfold bits_Len64 at h
  refine FOk_of_W 25 0 Try.func92 rfl rfl (Nat.le_of_ble_eq_true rfl) rfl (fun w X θ => ?_)
  refine W_seq ?_
  refine W_region ?_
  refine WO_step 1 [] [0, 2] True ⟨[(0, .one (.e (.c (.int .u64 i1)))), (2, I 0)], []⟩ (by kernel_rfl) trivial ?_
  refine WO_nil rfl ?_
  refine thenS_n ?_
  refine W_seq ?_
  refine W_seq ?_
  refine W_region ?_
  refine WO_step 2 [] [0, 2, 4] (True ∧ True) ⟨[(0, .one (.e (.c (.int .u64 i1)))), (2, I 0), (4, B (decide (4294967296 ≤ i1)))], []⟩ (by kernel_rfl) ⟨trivial, trivial⟩ ?_
  refine WO_nil rfl ?_
  refine thenS_n ?_
  refine iteO_e h (fun hb11 h => W_true rfl hb11 ?_) (fun hb11 h => W_false rfl hb11 ?_)
  · exact none_e h
  · refine W_sub [] [0, 2] (st' := ⟨[(0, .one (.e (.c (.int .u64 i1)))), (2, I 0)], []⟩) (by kernel_rfl) ?_
    refine W_skip ?_
    refine thenS_n ?_
    refine W_seq ?_
    refine W_seq ?_
    refine W_region ?_
    refine WO_step 2 [] [0, 2, 8] (True ∧ True) ⟨[(0, .one (.e (.c (.int .u64 i1)))), (2, I 0), (8, B (decide (65536 ≤ i1)))], []⟩ (by kernel_rfl) ⟨trivial, trivial⟩ ?_
    refine WO_nil rfl ?_
    refine thenS_n ?_
    refine iteO_e h (fun hb13 h => W_true rfl hb13 ?_) (fun hb13 h => W_false rfl hb13 ?_)
    · exact none_e h
    · refine W_sub [] [0, 2] (st' := ⟨[(0, .one (.e (.c (.int .u64 i1)))), (2, I 0)], []⟩) (by kernel_rfl) ?_
      refine W_skip ?_
      refine thenS_n ?_
      refine W_seq ?_
      refine W_seq ?_
      refine W_region ?_
      refine WO_step 2 [] [0, 2, 14] (True ∧ True) ⟨[(0, .one (.e (.c (.int .u64 i1)))), (2, I 0), (14, B (decide (256 ≤ i1)))], []⟩ (by kernel_rfl) ⟨trivial, trivial⟩ ?_
      refine WO_nil rfl ?_
      refine thenS_n ?_
      refine iteO_e h (fun hb15 h => W_true rfl hb15 ?_) (fun hb15 h => W_false rfl hb15 ?_)
      · exact none_e h
      · refine W_sub [] [0, 2] (st' := ⟨[(0, .one (.e (.c (.int .u64 i1)))), (2, I 0)], []⟩) (by kernel_rfl) ?_
        refine W_skip ?_
        refine thenS_n ?_
        refine W_seq ?_
        refine W_region ?_
        refine guardO_e h (fun hg16 h => ?_)
        refine WO_step 7 [] [2] (True ∧ ((0 ≤ (IntKind.u8.wrap i1) ∧ (IntKind.u8.wrap i1) < ((cstr1.length : Nat) : Int)) ∧ (True ∧ (True ∧ True)))) ⟨[(2, I (w64 (0 + (w64 ((cstr1.getD ((IntKind.u8.wrap i1).toNat) 0).toNat : Int)))))], []⟩ (by kernel_rfl) ⟨trivial, hg16, trivial, trivial, trivial⟩ ?_
        refine WO_nil rfl ?_
        refine thenS_n ?_
        refine W_ret ?_
        cases h
        exact ⟨[], True, by kernel_rfl, trivial⟩

/- bits.Len -/
def bits_Len (i1 : Int) : Option (Int) :=
 bindO (bits_Len64 i1) fun i5 =>
 some i5

theorem bits_Len_ok (i1 : Int) (i4 : Int) (h : bits_Len i1 = some i4) : FOk EE 77 [.one (.e (.c (.int .u64 i1)))] [] (I i4) [] := by
  unfold bits_Len at h
  refine FOk_of_W 8 0 Try.func77 rfl rfl (Nat.le_of_ble_eq_true rfl) rfl (fun w X θ => ?_)
  refine W_seq ?_
  refine W_region ?_
  refine WO_step 1 [] [0] True ⟨[(0, .one (.e (.c (.int .u64 i1))))], []⟩ (by kernel_rfl) trivial ?_
  refine WO_nil rfl ?_
  refine thenS_n ?_
  refine W_seq ?_
  refine W_false rfl rfl ?_
  refine W_skip ?_
  refine thenS_n ?_
  refine W_seq ?_
  refine W_region ?_
  refine WO_step 1 [] [6] True ⟨[(6, .one (.e (.c (.int .u64 i1))))], []⟩ (by kernel_rfl) trivial ?_
  refine bindO_e h (fun i5 hc6 h => ?_)
  refine WO_call [] Try.f92 rfl rfl rfl (by kernel_rfl) Try.func92 rfl (by kernel_rfl) (bits_Len64_ok i1 i5 hc6) (trivial) rfl ?_
  refine WO_step 1 [] [2] True ⟨[(2, I i5)], []⟩ (by kernel_rfl) trivial ?_
  refine WO_nil rfl ?_
  refine thenS_n ?_
  refine W_ret ?_
  cases h
  exact ⟨[], True, by kernel_rfl, trivial⟩

/- bytealg.CompareString -/
def lays213R : Shelf.Ren := ⟨fun n => match n with | 213 => 78 | 265 => 93 | _ => 0, fun n => match n with | 3 => 3 | 9 => 9 | _ => 0, fun n => n⟩
set_option maxRecDepth 100000 in
theorem lays213 : Lays.n213 Try.prog lays213R := {
  mixed := by kernel_rfl
  f213 := by kernel_rfl
  f265 := by kernel_rfl
  t3 := Try.underlying3
  a3 := Try.isAgg3
  z3 := Try.sizeOf3
  v3 := Try.zeroValue3
  t9 := Try.underlying9
  a9 := Try.isAgg9
  z9 := Try.sizeOf9
  v9 := Try.zeroValue9 }
def bytealg_CompareString (s1 : Str) (s2 : Str) : Int := Lib.compareBytes s1 s2
theorem bytealg_CompareString_ok (s1 s2 : Str) : FOk EE 78 [S s1, S s2] [] (I (bytealg_CompareString s1 s2)) [] :=
  FOk_pure (args := [.str s1, .str s2]) (r := .int .i64 (Lib.compareBytes s1 s2)) (fun w => Any.bytealg_CompareString lays213 ⟨⟨s1⟩⟩ ⟨⟨s2⟩⟩ w)

/- strings.Compare -/
def strings_Compare (s1 : Str) (s2 : Str) : Int :=
(bytealg_CompareString s1 s2)

theorem strings_Compare_ok (s1 : Str) (s2 : Str) : FOk EE 65 [S s1, S s2] [] (I (strings_Compare s1 s2)) [] := by
  refine FOk_of_W 8 0 Try.func65 rfl rfl (Nat.le_of_ble_eq_true rfl) rfl (fun w X θ => ?_)
  refine W_seq ?_
  refine W_region ?_
  refine WO_step 1 [] [0, 1] True ⟨[(0, S s1), (1, S s2)], []⟩ (by kernel_rfl) trivial ?_
  refine WO_nil rfl ?_
  refine thenS_n ?_
  refine W_seq ?_
  refine W_region ?_
  refine WO_step 2 [] [5, 6] True ⟨[(5, S s1), (6, S s2)], []⟩ (by kernel_rfl) trivial ?_
  refine WO_call [] Try.f78 rfl rfl rfl (by kernel_rfl) Try.func78 rfl (by kernel_rfl) (bytealg_CompareString_ok s1 s2) (trivial) rfl ?_
  refine WO_step 1 [] [4] True ⟨[(4, I (bytealg_CompareString s1 s2))], []⟩ (by kernel_rfl) trivial ?_
  refine WO_nil rfl ?_
  refine thenS_n ?_
  refine W_ret ?_
  exact ⟨[], True, by kernel_rfl, trivial⟩

end Go.Proofs.Ytghdgncfcfdlfaa

import Derived.Test.YthlfcfcfipahiaaTLt
import Derived.Test.YthlfcfcfipahiaaTLxb
import Derived.Shelf.Strings.Builder1
import Derived.Shelf.Strings.Search1
import Derived.Test.YthlfcfcfipahiaaProg
namespace Go.Proofs.Ythlfcfcfipahiaa
open Go Go.Shelf Go.Proofs
set_option linter.unusedVariables false
noncomputable def EE : Env := ⟨Try.prog, fun _ => none, fun t => match t with | 3 => some .int | 5 => some .u8 | 9 => some .str | 33 => some .edt | 36 => some .nod | 67 => some .nod | 69 => some .edt | _ => none⟩
/- laws.szNode -/
def laws_szNode (x1 : Nod) (i2 : Int) : Option (Int) :=
 iteO (decide ((w64 (i2 - ((x1.name.length : Nat) : Int))) < 0))
 (some (-1))
 (some (w64 (i2 - ((x1.name.length : Nat) : Int))))

theorem laws_szNode_ok (x1 : Nod) (i2 : Int) (i5 : Int) (h : laws_szNode x1 i2 = some i5) : FOk EE 44 [AGG [cI x1.parent, cS x1.name, cI x1.value], I i2] [] (I i5) [] := by
  unfold laws_szNode at h
  refine FOk_of_W 13 0 Try.func44 rfl rfl (Nat.le_of_ble_eq_true rfl) rfl (fun w X θ => ?_)
  refine W_seq ?_
  refine W_region ?_
  refine WO_step 2 [0] [1, 2] (True ∧ True) ⟨[(1, I i2), (2, .one (.e (.p 0 0)))], [.cells [cI x1.parent, cS x1.name, cI x1.value]]⟩ (by kernel_rfl) ⟨trivial, trivial⟩ ?_
  refine WO_nil rfl ?_
  refine thenS_n ?_
  refine W_seq ?_
  refine W_region ?_
  refine WO_step 6 [] [1] (True ∧ (True ∧ (True ∧ True))) ⟨[(1, I (w64 (i2 - ((x1.name.length : Nat) : Int))))], []⟩ (by kernel_rfl) ⟨trivial, trivial, trivial, trivial⟩ ?_
  refine WO_nil rfl ?_
  refine thenS_n ?_
  refine W_seq ?_
  refine W_seq ?_
  refine W_region ?_
  refine WO_step 2 [] [1, 11] (True ∧ True) ⟨[(1, I (w64 (i2 - ((x1.name.length : Nat) : Int)))), (11, B (decide ((w64 (i2 - ((x1.name.length : Nat) : Int))) < 0)))], []⟩ (by kernel_rfl) ⟨trivial, trivial⟩ ?_
  refine WO_nil rfl ?_
  refine thenS_n ?_
  refine iteO_e h (fun hb7 h => W_true rfl hb7 ?_) (fun hb7 h => W_false rfl hb7 ?_)
  · refine W_seq ?_
    refine W_region ?_
    refine WO_step 1 [] [4] True ⟨[(4, I (-1))], []⟩ (by kernel_rfl) trivial ?_
    refine WO_nil rfl ?_
    refine thenS_n ?_
    refine W_ret ?_
    refine thenS_r ?_
    cases h
    exact ⟨[], True, by kernel_rfl, trivial⟩
  · refine W_sub [] [1] (st' := ⟨[(1, I (w64 (i2 - ((x1.name.length : Nat) : Int))))], []⟩) (by kernel_rfl) ?_
    refine W_skip ?_
    refine thenS_n ?_
    refine W_seq ?_
    refine W_region ?_
    refine WO_step 2 [] [4] True ⟨[(4, I (w64 (i2 - ((x1.name.length : Nat) : Int))))], []⟩ (by kernel_rfl) trivial ?_
    refine WO_nil rfl ?_
    refine thenS_n ?_
    refine W_ret ?_
    cases h
    exact ⟨[], True, by kernel_rfl, trivial⟩

/- laws.szNodeS -/
def laws_szNodeS_L1 (x1 : List Nod) : Nat → Int → Int → Option ((Unit) ⊕ (Int))
| 0, _, _ => none
| n + 1, i74, i75 =>
 iteO (decide (i75 < ((x1.length : Nat) : Int)))
 (guardO (0 ≤ i75 ∧ i75 < ((x1.length : Nat) : Int)) <|
 bindO (laws_szNode (x1.getD i75.toNat dnod) i74) fun i100 =>
 iteO (decide (i100 < 0))
 (some (.inl ()))
 (laws_szNodeS_L1 x1 n i100 (w64 (i75 + 1))))
 (some (.inr i74))

theorem laws_szNodeS_L1_ok (w : World) (X : Nat → Prop) (θ : List Loc) (x1 : List Nod) (v : (Unit) ⊕ (Int)) : ∀ (n : Nat) (i74 : Int) (i75 : Int), laws_szNodeS_L1 x1 n i74 i75 = some v → WL EE ⟨w, X, θ, 27, 1⟩ (subC [1, 1, 1, 0, 1, 4, 4] (bodyC Try.f15)) (fun (e : Exit) (s : St) => (match v with | (.inl _) => e = .ret ∧ s = ⟨[(4, I (-1))], [.row .nod x1 false]⟩ | (.inr i90) => e = .exit 0 ∧ s = ⟨[(1, I i90)], [.row .nod x1 false]⟩ : Prop)) ⟨[(0, .one (.e (.sl 0 0 x1.length))), (1, I i74), (5, I i75)], [.row .nod x1 false]⟩ := by
  intro n
  induction n with
  | zero => intro _ _ h; exact none_e h
  | succ n ih =>
    intro i74 i75 h
    rw [laws_szNodeS_L1] at h
    refine WL_round ?_
    refine W_seq ?_
    refine W_seq ?_
    refine W_region ?_
    refine WO_step 4 [0] [0, 1, 5, 15] (True ∧ (True ∧ True)) ⟨[(0, .one (.e (.sl 0 0 x1.length))), (1, I i74), (5, I i75), (15, B (decide (i75 < ((x1.length : Nat) : Int))))], [.row .nod x1 false]⟩ (by kernel_rfl) ⟨trivial, trivial, trivial⟩ ?_
    refine WO_nil rfl ?_
    refine thenS_n ?_
    refine iteO_e h (fun hb93 h => W_true rfl hb93 ?_) (fun hb93 h => W_false rfl hb93 ?_)
    · refine W_sub [0] [0, 1, 5] (st' := ⟨[(0, .one (.e (.sl 0 0 x1.length))), (1, I i74), (5, I i75)], [.row .nod x1 false]⟩) (by kernel_rfl) ?_
      refine W_skip ?_
      refine thenS_n ?_
      refine W_seq ?_
      refine W_block ?_
      refine W_seq ?_
      refine W_region ?_
      refine guardO_e h (fun hg99 h => ?_)
      refine WO_step 5 [0] [0, 5, 21, 22] ((0 ≤ i75 ∧ i75 < ((x1.length : Nat) : Int)) ∧ (True ∧ True)) ⟨[(0, .one (.e (.sl 0 0 x1.length))), (5, I i75), (21, AGG [cI ((x1.getD i75.toNat dnod).parent), cS ((x1.getD i75.toNat dnod).name), cI ((x1.getD i75.toNat dnod).value)]), (22, I i74)], [.row .nod x1 false]⟩ (by kernel_rfl) ⟨hg99, trivial, trivial⟩ ?_
      refine bindO_e h (fun i100 hc101 h => ?_)
      refine WO_call [] Try.f44 rfl rfl rfl (by kernel_rfl) Try.func44 rfl (by kernel_rfl) (laws_szNode_ok (x1.getD i75.toNat dnod) i74 i100 hc101) (trivial) rfl ?_
      refine WO_step 1 [0] [0, 1, 5] True ⟨[(0, .one (.e (.sl 0 0 x1.length))), (1, I i100), (5, I i75)], [.row .nod x1 false]⟩ (by kernel_rfl) trivial ?_
      refine WO_nil rfl ?_
      refine thenS_n ?_
      refine W_seq ?_
      refine W_region ?_
      refine WO_step 2 [0] [0, 1, 5, 25] (True ∧ True) ⟨[(0, .one (.e (.sl 0 0 x1.length))), (1, I i100), (5, I i75), (25, B (decide (i100 < 0)))], [.row .nod x1 false]⟩ (by kernel_rfl) ⟨trivial, trivial⟩ ?_
      refine WO_nil rfl ?_
      refine thenS_n ?_
      refine iteO_e h (fun hb103 h => W_true rfl hb103 ?_) (fun hb103 h => W_false rfl hb103 ?_)
      · refine W_seq ?_
        refine W_region ?_
        refine WO_step 1 [0] [4] True ⟨[(4, I (-1))], [.row .nod x1 false]⟩ (by kernel_rfl) trivial ?_
        refine WO_nil rfl ?_
        refine thenS_n ?_
        refine W_ret ?_
        refine blockS_r ?_
        refine thenS_r ?_
        refine thenS_r ?_
        cases h
        exact And.intro rfl rfl
      · refine W_sub [0] [0, 1, 5] (st' := ⟨[(0, .one (.e (.sl 0 0 x1.length))), (1, I i100), (5, I i75)], [.row .nod x1 false]⟩) (by kernel_rfl) ?_
        refine W_skip ?_
        refine blockS_n ?_
        refine thenS_n ?_
        refine W_region ?_
        refine WO_step 3 [0] [0, 1, 5] (True ∧ True) ⟨[(0, .one (.e (.sl 0 0 x1.length))), (1, I i100), (5, I (w64 (i75 + 1)))], [.row .nod x1 false]⟩ (by kernel_rfl) ⟨trivial, trivial⟩ ?_
        refine WO_nil rfl ?_
        refine thenS_n ?_
        exact ih _ _ h
    · refine W_sub [0] [1] (st' := ⟨[(1, I i74)], [.row .nod x1 false]⟩) (by kernel_rfl) ?_
      refine W_exit ?_
      refine thenS_e ?_
      refine thenS_e ?_
      cases h
      exact And.intro rfl rfl

def laws_szNodeS (n : Nat) (x1 : List Nod) (i2 : Int) : Option (Int) :=
 iteO (decide ((w64 (i2 - ((x1.length : Nat) : Int))) < 0))
 (some (-1))
 (bindO (laws_szNodeS_L1 x1 n (w64 (i2 - ((x1.length : Nat) : Int))) 0) fun v104 =>
 match v104 with
 | (.inl _) => (some (-1))
 | (.inr i90) => (some i90)
)

theorem laws_szNodeS_ok (n : Nat) (x1 : List Nod) (i2 : Int) (i53 : Int) (h : laws_szNodeS n x1 i2 = some i53) : FOk EE 15 [.one (.e (.sl 0 0 x1.length)), I i2] [.row .nod x1 false] (I i53) [.row .nod x1 false] := by
  unfold laws_szNodeS at h
  refine FOk_of_W 27 1 Try.func15 rfl rfl (Nat.le_of_ble_eq_true rfl) rfl (fun w X θ => ?_)
  refine W_seq ?_
  refine W_region ?_
  refine WO_step 1 [0] [0, 1] True ⟨[(0, .one (.e (.sl 0 0 x1.length))), (1, I i2)], [.row .nod x1 false]⟩ (by kernel_rfl) trivial ?_
  refine WO_nil rfl ?_
  refine thenS_n ?_
  refine W_seq ?_
  refine W_region ?_
  refine WO_step 5 [0] [0, 1] (True ∧ (True ∧ True)) ⟨[(0, .one (.e (.sl 0 0 x1.length))), (1, I (w64 (i2 - ((x1.length : Nat) : Int))))], [.row .nod x1 false]⟩ (by kernel_rfl) ⟨trivial, trivial, trivial⟩ ?_
  refine WO_nil rfl ?_
  refine thenS_n ?_
  refine W_seq ?_
  refine W_seq ?_
  refine W_region ?_
  refine WO_step 2 [0] [0, 1, 11] (True ∧ True) ⟨[(0, .one (.e (.sl 0 0 x1.length))), (1, I (w64 (i2 - ((x1.length : Nat) : Int)))), (11, B (decide ((w64 (i2 - ((x1.length : Nat) : Int))) < 0)))], [.row .nod x1 false]⟩ (by kernel_rfl) ⟨trivial, trivial⟩ ?_
  refine WO_nil rfl ?_
  refine thenS_n ?_
  refine iteO_e h (fun hb55 h => W_true rfl hb55 ?_) (fun hb55 h => W_false rfl hb55 ?_)
  · refine W_seq ?_
    refine W_region ?_
    refine WO_step 1 [0] [4] True ⟨[(4, I (-1))], [.row .nod x1 false]⟩ (by kernel_rfl) trivial ?_
    refine WO_nil rfl ?_
    refine thenS_n ?_
    refine W_ret ?_
    refine thenS_r ?_
    cases h
    exact ⟨[0], True, by kernel_rfl, trivial⟩
  · refine W_sub [0] [0, 1] (st' := ⟨[(0, .one (.e (.sl 0 0 x1.length))), (1, I (w64 (i2 - ((x1.length : Nat) : Int))))], [.row .nod x1 false]⟩) (by kernel_rfl) ?_
    refine W_skip ?_
    refine thenS_n ?_
    refine W_seq ?_
    refine W_seq ?_
    refine W_region ?_
    refine WO_step 1 [0] [0, 1, 5] True ⟨[(0, .one (.e (.sl 0 0 x1.length))), (1, I (w64 (i2 - ((x1.length : Nat) : Int)))), (5, I 0)], [.row .nod x1 false]⟩ (by kernel_rfl) trivial ?_
    refine WO_nil rfl ?_
    refine thenS_n ?_
    refine W_block ?_
    refine W_loop ?_
    refine bindO_e h (fun v104 hv104 h => ?_)
    refine WL_cut (laws_szNodeS_L1_ok w X θ x1 v104 n (w64 (i2 - ((x1.length : Nat) : Int))) 0 hv104) ?_
    rcases v104 with _ | i90
    · rintro _ _ ⟨rfl, rfl⟩
      refine blockS_r ?_
      refine thenS_r ?_
      cases h
      exact ⟨[0], True, by kernel_rfl, trivial⟩
    · rintro _ _ ⟨rfl, rfl⟩
      refine blockS_y ?_
      refine thenS_n ?_
      refine W_seq ?_
      refine W_region ?_
      refine WO_step 2 [0] [4] True ⟨[(4, I i90)], [.row .nod x1 false]⟩ (by kernel_rfl) trivial ?_
      refine WO_nil rfl ?_
      refine thenS_n ?_
      refine W_ret ?_
      cases h
      exact ⟨[0], True, by kernel_rfl, trivial⟩

/- laws.szEdit -/
def laws_szEdit (x1 : Edt) (i2 : Int) : Option (Int) :=
 iteO (decide ((w64 (i2 - ((x1.path.length : Nat) : Int))) < 0))
 (some (-1))
 (some (w64 (i2 - ((x1.path.length : Nat) : Int))))

theorem laws_szEdit_ok (x1 : Edt) (i2 : Int) (i5 : Int) (h : laws_szEdit x1 i2 = some i5) : FOk EE 45 [AGG [cI x1.kind, cS x1.path, cI x1.value], I i2] [] (I i5) [] := by
  unfold laws_szEdit at h
  refine FOk_of_W 13 0 Try.func45 rfl rfl (Nat.le_of_ble_eq_true rfl) rfl (fun w X θ => ?_)
  refine W_seq ?_
  refine W_region ?_
  refine WO_step 2 [0] [1, 2] (True ∧ True) ⟨[(1, I i2), (2, .one (.e (.p 0 0)))], [.cells [cI x1.kind, cS x1.path, cI x1.value]]⟩ (by kernel_rfl) ⟨trivial, trivial⟩ ?_
  refine WO_nil rfl ?_
  refine thenS_n ?_
  refine W_seq ?_
  refine W_region ?_
  refine WO_step 6 [] [1] (True ∧ (True ∧ (True ∧ True))) ⟨[(1, I (w64 (i2 - ((x1.path.length : Nat) : Int))))], []⟩ (by kernel_rfl) ⟨trivial, trivial, trivial, trivial⟩ ?_
  refine WO_nil rfl ?_
  refine thenS_n ?_
  refine W_seq ?_
  refine W_seq ?_
  refine W_region ?_
  refine WO_step 2 [] [1, 11] (True ∧ True) ⟨[(1, I (w64 (i2 - ((x1.path.length : Nat) : Int)))), (11, B (decide ((w64 (i2 - ((x1.path.length : Nat) : Int))) < 0)))], []⟩ (by kernel_rfl) ⟨trivial, trivial⟩ ?_
  refine WO_nil rfl ?_
  refine thenS_n ?_
  refine iteO_e h (fun hb7 h => W_true rfl hb7 ?_) (fun hb7 h => W_false rfl hb7 ?_)
  · refine W_seq ?_
    refine W_region ?_
    refine WO_step 1 [] [4] True ⟨[(4, I (-1))], []⟩ (by kernel_rfl) trivial ?_
    refine WO_nil rfl ?_
    refine thenS_n ?_
    refine W_ret ?_
    refine thenS_r ?_
    cases h
    exact ⟨[], True, by kernel_rfl, trivial⟩
  · refine W_sub [] [1] (st' := ⟨[(1, I (w64 (i2 - ((x1.path.length : Nat) : Int))))], []⟩) (by kernel_rfl) ?_
    refine W_skip ?_
    refine thenS_n ?_
    refine W_seq ?_
    refine W_region ?_
    refine WO_step 2 [] [4] True ⟨[(4, I (w64 (i2 - ((x1.path.length : Nat) : Int))))], []⟩ (by kernel_rfl) trivial ?_
    refine WO_nil rfl ?_
    refine thenS_n ?_
    refine W_ret ?_
    cases h
    exact ⟨[], True, by kernel_rfl, trivial⟩

/- laws.szEditS -/
def laws_szEditS_L1 (x1 : List Edt) : Nat → Int → Int → Option ((Unit) ⊕ (Int))
| 0, _, _ => none
| n + 1, i74, i75 =>
 iteO (decide (i75 < ((x1.length : Nat) : Int)))
 (guardO (0 ≤ i75 ∧ i75 < ((x1.length : Nat) : Int)) <|
 bindO (laws_szEdit (x1.getD i75.toNat dedt) i74) fun i100 =>
 iteO (decide (i100 < 0))
 (some (.inl ()))
 (laws_szEditS_L1 x1 n i100 (w64 (i75 + 1))))
 (some (.inr i74))

theorem laws_szEditS_L1_ok (w : World) (X : Nat → Prop) (θ : List Loc) (x1 : List Edt) (v : (Unit) ⊕ (Int)) : ∀ (n : Nat) (i74 : Int) (i75 : Int), laws_szEditS_L1 x1 n i74 i75 = some v → WL EE ⟨w, X, θ, 27, 1⟩ (subC [1, 1, 1, 0, 1, 4, 4] (bodyC Try.f16)) (fun (e : Exit) (s : St) => (match v with | (.inl _) => e = .ret ∧ s = ⟨[(4, I (-1))], [.row .edt x1 false]⟩ | (.inr i90) => e = .exit 0 ∧ s = ⟨[(1, I i90)], [.row .edt x1 false]⟩ : Prop)) ⟨[(0, .one (.e (.sl 0 0 x1.length))), (1, I i74), (5, I i75)], [.row .edt x1 false]⟩ := by
  intro n
  induction n with
  | zero => intro _ _ h; exact none_e h
  | succ n ih =>
    intro i74 i75 h
    rw [laws_szEditS_L1] at h
    refine WL_round ?_
    refine W_seq ?_
    refine W_seq ?_
    refine W_region ?_
    refine WO_step 4 [0] [0, 1, 5, 15] (True ∧ (True ∧ True)) ⟨[(0, .one (.e (.sl 0 0 x1.length))), (1, I i74), (5, I i75), (15, B (decide (i75 < ((x1.length : Nat) : Int))))], [.row .edt x1 false]⟩ (by kernel_rfl) ⟨trivial, trivial, trivial⟩ ?_
    refine WO_nil rfl ?_
    refine thenS_n ?_
    refine iteO_e h (fun hb93 h => W_true rfl hb93 ?_) (fun hb93 h => W_false rfl hb93 ?_)
    · refine W_sub [0] [0, 1, 5] (st' := ⟨[(0, .one (.e (.sl 0 0 x1.length))), (1, I i74), (5, I i75)], [.row .edt x1 false]⟩) (by kernel_rfl) ?_
      refine W_skip ?_
      refine thenS_n ?_
      refine W_seq ?_
      refine W_block ?_
      refine W_seq ?_
      refine W_region ?_
      refine guardO_e h (fun hg99 h => ?_)
      refine WO_step 5 [0] [0, 5, 21, 22] ((0 ≤ i75 ∧ i75 < ((x1.length : Nat) : Int)) ∧ (True ∧ True)) ⟨[(0, .one (.e (.sl 0 0 x1.length))), (5, I i75), (21, AGG [cI ((x1.getD i75.toNat dedt).kind), cS ((x1.getD i75.toNat dedt).path), cI ((x1.getD i75.toNat dedt).value)]), (22, I i74)], [.row .edt x1 false]⟩ (by kernel_rfl) ⟨hg99, trivial, trivial⟩ ?_
      refine bindO_e h (fun i100 hc101 h => ?_)
      refine WO_call [] Try.f45 rfl rfl rfl (by kernel_rfl) Try.func45 rfl (by kernel_rfl) (laws_szEdit_ok (x1.getD i75.toNat dedt) i74 i100 hc101) (trivial) rfl ?_
      refine WO_step 1 [0] [0, 1, 5] True ⟨[(0, .one (.e (.sl 0 0 x1.length))), (1, I i100), (5, I i75)], [.row .edt x1 false]⟩ (by kernel_rfl) trivial ?_
      refine WO_nil rfl ?_
      refine thenS_n ?_
      refine W_seq ?_
      refine W_region ?_
      refine WO_step 2 [0] [0, 1, 5, 25] (True ∧ True) ⟨[(0, .one (.e (.sl 0 0 x1.length))), (1, I i100), (5, I i75), (25, B (decide (i100 < 0)))], [.row .edt x1 false]⟩ (by kernel_rfl) ⟨trivial, trivial⟩ ?_
      refine WO_nil rfl ?_
      refine thenS_n ?_
      refine iteO_e h (fun hb103 h => W_true rfl hb103 ?_) (fun hb103 h => W_false rfl hb103 ?_)
      · refine W_seq ?_
        refine W_region ?_
        refine WO_step 1 [0] [4] True ⟨[(4, I (-1))], [.row .edt x1 false]⟩ (by kernel_rfl) trivial ?_
        refine WO_nil rfl ?_
        refine thenS_n ?_
        refine W_ret ?_
        refine blockS_r ?_
        refine thenS_r ?_
        refine thenS_r ?_
        cases h
        exact And.intro rfl rfl
      · refine W_sub [0] [0, 1, 5] (st' := ⟨[(0, .one (.e (.sl 0 0 x1.length))), (1, I i100), (5, I i75)], [.row .edt x1 false]⟩) (by kernel_rfl) ?_
        refine W_skip ?_
        refine blockS_n ?_
        refine thenS_n ?_
        refine W_region ?_
        refine WO_step 3 [0] [0, 1, 5] (True ∧ True) ⟨[(0, .one (.e (.sl 0 0 x1.length))), (1, I i100), (5, I (w64 (i75 + 1)))], [.row .edt x1 false]⟩ (by kernel_rfl) ⟨trivial, trivial⟩ ?_
        refine WO_nil rfl ?_
        refine thenS_n ?_
        exact ih _ _ h
    · refine W_sub [0] [1] (st' := ⟨[(1, I i74)], [.row .edt x1 false]⟩) (by kernel_rfl) ?_
      refine W_exit ?_
      refine thenS_e ?_
      refine thenS_e ?_
      cases h
      exact And.intro rfl rfl

def laws_szEditS (n : Nat) (x1 : List Edt) (i2 : Int) : Option (Int) :=
 iteO (decide ((w64 (i2 - ((x1.length : Nat) : Int))) < 0))
 (some (-1))
 (bindO (laws_szEditS_L1 x1 n (w64 (i2 - ((x1.length : Nat) : Int))) 0) fun v104 =>
 match v104 with
 | (.inl _) => (some (-1))
 | (.inr i90) => (some i90)
)

theorem laws_szEditS_ok (n : Nat) (x1 : List Edt) (i2 : Int) (i53 : Int) (h : laws_szEditS n x1 i2 = some i53) : FOk EE 16 [.one (.e (.sl 0 0 x1.length)), I i2] [.row .edt x1 false] (I i53) [.row .edt x1 false] := by
  unfold laws_szEditS at h
  refine FOk_of_W 27 1 Try.func16 rfl rfl (Nat.le_of_ble_eq_true rfl) rfl (fun w X θ => ?_)
  refine W_seq ?_
  refine W_region ?_
  refine WO_step 1 [0] [0, 1] True ⟨[(0, .one (.e (.sl 0 0 x1.length))), (1, I i2)], [.row .edt x1 false]⟩ (by kernel_rfl) trivial ?_
  refine WO_nil rfl ?_
  refine thenS_n ?_
  refine W_seq ?_
  refine W_region ?_
  refine WO_step 5 [0] [0, 1] (True ∧ (True ∧ True)) ⟨[(0, .one (.e (.sl 0 0 x1.length))), (1, I (w64 (i2 - ((x1.length : Nat) : Int))))], [.row .edt x1 false]⟩ (by kernel_rfl) ⟨trivial, trivial, trivial⟩ ?_
  refine WO_nil rfl ?_
  refine thenS_n ?_
  refine W_seq ?_
  refine W_seq ?_
  refine W_region ?_
  refine WO_step 2 [0] [0, 1, 11] (True ∧ True) ⟨[(0, .one (.e (.sl 0 0 x1.length))), (1, I (w64 (i2 - ((x1.length : Nat) : Int)))), (11, B (decide ((w64 (i2 - ((x1.length : Nat) : Int))) < 0)))], [.row .edt x1 false]⟩ (by kernel_rfl) ⟨trivial, trivial⟩ ?_
  refine WO_nil rfl ?_
  refine thenS_n ?_
  refine iteO_e h (fun hb55 h => W_true rfl hb55 ?_) (fun hb55 h => W_false rfl hb55 ?_)
  · refine W_seq ?_
    refine W_region ?_
    refine WO_step 1 [0] [4] True ⟨[(4, I (-1))], [.row .edt x1 false]⟩ (by kernel_rfl) trivial ?_
    refine WO_nil rfl ?_
    refine thenS_n ?_
    refine W_ret ?_
    refine thenS_r ?_
    cases h
    exact ⟨[0], True, by kernel_rfl, trivial⟩
  · refine W_sub [0] [0, 1] (st' := ⟨[(0, .one (.e (.sl 0 0 x1.length))), (1, I (w64 (i2 - ((x1.length : Nat) : Int))))], [.row .edt x1 false]⟩) (by kernel_rfl) ?_
    refine W_skip ?_
    refine thenS_n ?_
    refine W_seq ?_
    refine W_seq ?_
    refine W_region ?_
    refine WO_step 1 [0] [0, 1, 5] True ⟨[(0, .one (.e (.sl 0 0 x1.length))), (1, I (w64 (i2 - ((x1.length : Nat) : Int)))), (5, I 0)], [.row .edt x1 false]⟩ (by kernel_rfl) trivial ?_
    refine WO_nil rfl ?_
    refine thenS_n ?_
    refine W_block ?_
    refine W_loop ?_
    refine bindO_e h (fun v104 hv104 h => ?_)
    refine WL_cut (laws_szEditS_L1_ok w X θ x1 v104 n (w64 (i2 - ((x1.length : Nat) : Int))) 0 hv104) ?_
    rcases v104 with _ | i90
    · rintro _ _ ⟨rfl, rfl⟩
      refine blockS_r ?_
      refine thenS_r ?_
      cases h
      exact ⟨[0], True, by kernel_rfl, trivial⟩
    · rintro _ _ ⟨rfl, rfl⟩
      refine blockS_y ?_
      refine thenS_n ?_
      refine W_seq ?_
      refine W_region ?_
      refine WO_step 2 [0] [4] True ⟨[(4, I i90)], [.row .edt x1 false]⟩ (by kernel_rfl) trivial ?_
      refine WO_nil rfl ?_
      refine thenS_n ?_
      refine W_ret ?_
      cases h
      exact ⟨[0], True, by kernel_rfl, trivial⟩

/- laws.toNode -/
def laws_toNode (x1 : Nod) : Option (Int × Str × Int) :=
 some (x1.parent, x1.name, x1.value)

theorem laws_toNode_ok (x1 : Nod) (i2 : Int) (s3 : Str) (i4 : Int) (h : laws_toNode x1 = some (i2, s3, i4)) : FOk EE 46 [AGG [cI x1.parent, cS x1.name, cI x1.value]] [] (AGG [cI i2, cS s3, cI i4]) [] := by
  unfold laws_toNode at h
  refine FOk_of_W 14 0 Try.func46 rfl rfl (Nat.le_of_ble_eq_true rfl) rfl (fun w X θ => ?_)
  refine W_seq ?_
  refine W_region ?_
  refine WO_step 2 [0, 1] [1, 2] (True ∧ (True ∧ True)) ⟨[(1, .one (.e (.p 0 0))), (2, .one (.e (.p 1 0)))], [.cells [cI x1.parent, cS x1.name, cI x1.value], .cells [cI 0, cS [], cI 0]]⟩ (by kernel_rfl) ⟨trivial, trivial, trivial⟩ ?_
  refine WO_nil rfl ?_
  refine thenS_n ?_
  refine W_seq ?_
  refine W_region ?_
  refine WO_step 1 [0, 1, 2] [1, 2, 3] (True ∧ True) ⟨[(1, .one (.e (.p 0 0))), (2, .one (.e (.p 1 0))), (3, .one (.e (.p 2 0)))], [.cells [cI x1.parent, cS x1.name, cI x1.value], .cells [cI 0, cS [], cI 0], .cells [cI 0, cS [], cI 0]]⟩ (by kernel_rfl) ⟨trivial, trivial⟩ ?_
  refine WO_nil rfl ?_
  refine thenS_n ?_
  refine W_seq ?_
  refine W_region ?_
  refine WO_step 4 [0, 1, 2] [1, 2, 3] (True ∧ (True ∧ True)) ⟨[(1, .one (.e (.p 0 0))), (2, .one (.e (.p 1 0))), (3, .one (.e (.p 2 0)))], [.cells [cI x1.parent, cS x1.name, cI x1.value], .cells [cI 0, cS [], cI 0], .cells [cI x1.parent, cS [], cI 0]]⟩ (by kernel_rfl) ⟨trivial, trivial, trivial⟩ ?_
  refine WO_nil rfl ?_
  refine thenS_n ?_
  refine W_seq ?_
  refine W_region ?_
  refine WO_step 4 [0, 1, 2] [1, 2, 3] (True ∧ (True ∧ True)) ⟨[(1, .one (.e (.p 0 0))), (2, .one (.e (.p 1 0))), (3, .one (.e (.p 2 0)))], [.cells [cI x1.parent, cS x1.name, cI x1.value], .cells [cI 0, cS [], cI 0], .cells [cI x1.parent, cS x1.name, cI 0]]⟩ (by kernel_rfl) ⟨trivial, trivial, trivial⟩ ?_
  refine WO_nil rfl ?_
  refine thenS_n ?_
  refine W_seq ?_
  refine W_region ?_
  refine WO_step 4 [1, 2] [2, 3] (True ∧ (True ∧ True)) ⟨[(2, .one (.e (.p 0 0))), (3, .one (.e (.p 1 0)))], [.cells [cI 0, cS [], cI 0], .cells [cI x1.parent, cS x1.name, cI x1.value]]⟩ (by kernel_rfl) ⟨trivial, trivial, trivial⟩ ?_
  refine WO_nil rfl ?_
  refine thenS_n ?_
  refine W_seq ?_
  refine W_region ?_
  refine WO_step 2 [0] [2] (True ∧ (True ∧ True)) ⟨[(2, .one (.e (.p 0 0)))], [.cells [cI x1.parent, cS x1.name, cI x1.value]]⟩ (by kernel_rfl) ⟨trivial, trivial, trivial⟩ ?_
  refine WO_nil rfl ?_
  refine thenS_n ?_
  refine W_ret ?_
  cases h
  exact ⟨[], True, by kernel_rfl, trivial⟩

/- laws.toNodeS -/
def laws_toNodeS_L1 (x1 : List Nod) : Nat → (List Nod) → Int → Option ((List Nod))
| 0, _, _ => none
| n + 1, x87, i88 =>
 iteO (decide (i88 < ((x1.length : Nat) : Int)))
 (guardO (0 ≤ i88 ∧ i88 < ((x1.length : Nat) : Int)) <|
 bindO (laws_toNode (x1.getD i88.toNat dnod)) fun (i119, s120, i121) =>
 guardO (0 ≤ i88 ∧ i88 < ((x87.length : Nat) : Int)) <|
 laws_toNodeS_L1 x1 n (x87.set i88.toNat (⟨i119, s120, i121⟩ : Nod)) (w64 (i88 + 1)))
 (some x87)

theorem laws_toNodeS_L1_ok (w : World) (X : Nat → Prop) (θ : List Loc) (x1 : List Nod) (x107 : (List Nod)) : ∀ (n : Nat) (x87 : List Nod) (i88 : Int), laws_toNodeS_L1 x1 n x87 i88 = some x107 → WL EE ⟨w, X, θ, 23, 1⟩ (subC [1, 1, 0, 1, 4, 4] (bodyC Try.f17)) (fun (e : Exit) (s : St) => e = .exit 0 ∧ s = ⟨[(3, .one (.e (.sl 1 0 x107.length)))], [.row .nod x1 false, .row .nod x107 true]⟩) ⟨[(0, .one (.e (.sl 0 0 x1.length))), (3, .one (.e (.sl 1 0 x87.length))), (4, I i88)], [.row .nod x1 false, .row .nod x87 true]⟩ := by
  intro n
  induction n with
  | zero => intro _ _ h; exact none_e h
  | succ n ih =>
    intro x87 i88 h
    rw [laws_toNodeS_L1] at h
    refine WL_round ?_
    refine W_seq ?_
    refine W_seq ?_
    refine W_region ?_
    refine WO_step 4 [0, 1] [0, 3, 4, 11] (True ∧ (True ∧ True)) ⟨[(0, .one (.e (.sl 0 0 x1.length))), (3, .one (.e (.sl 1 0 x87.length))), (4, I i88), (11, B (decide (i88 < ((x1.length : Nat) : Int))))], [.row .nod x1 false, .row .nod x87 true]⟩ (by kernel_rfl) ⟨trivial, trivial, trivial⟩ ?_
    refine WO_nil rfl ?_
    refine thenS_n ?_
    refine iteO_e h (fun hb110 h => W_true rfl hb110 ?_) (fun hb110 h => W_false rfl hb110 ?_)
    · refine W_sub [0, 1] [0, 3, 4] (st' := ⟨[(0, .one (.e (.sl 0 0 x1.length))), (3, .one (.e (.sl 1 0 x87.length))), (4, I i88)], [.row .nod x1 false, .row .nod x87 true]⟩) (by kernel_rfl) ?_
      refine W_skip ?_
      refine thenS_n ?_
      refine W_seq ?_
      refine W_block ?_
      refine W_region ?_
      refine guardO_e h (fun hg118 h => ?_)
      refine WO_step 6 [0, 1] [0, 3, 4, 14, 15, 19] ((0 ≤ i88 ∧ i88 < ((x1.length : Nat) : Int)) ∧ (True ∧ True)) ⟨[(0, .one (.e (.sl 0 0 x1.length))), (3, .one (.e (.sl 1 0 x87.length))), (4, I i88), (14, .one (.e (.sl 1 0 x87.length))), (15, I i88), (19, AGG [cI ((x1.getD i88.toNat dnod).parent), cS ((x1.getD i88.toNat dnod).name), cI ((x1.getD i88.toNat dnod).value)])], [.row .nod x1 false, .row .nod x87 true]⟩ (by kernel_rfl) ⟨hg118, trivial, trivial⟩ ?_
      refine bindO_e h (fun v124 hc122 h => ?_)
      obtain ⟨i119, s120, i121⟩ := v124
      refine WO_call [] Try.f46 rfl rfl rfl (by kernel_rfl) Try.func46 rfl (by kernel_rfl) (laws_toNode_ok (x1.getD i88.toNat dnod) i119 s120 i121 hc122) (trivial) rfl ?_
      refine guardO_e h (fun hg123 h => ?_)
      refine WO_step 2 [0, 1] [0, 3, 4] ((0 ≤ i88 ∧ i88 < ((x87.length : Nat) : Int)) ∧ (True ∧ True)) ⟨[(0, .one (.e (.sl 0 0 x1.length))), (3, .one (.e (.sl 1 0 x87.length))), (4, I i88)], [.row .nod x1 false, .row .nod (x87.set i88.toNat (⟨i119, s120, i121⟩ : Nod)) true]⟩ (by kernel_rfl) ⟨hg123, trivial, trivial⟩ ?_
      refine WO_eq (st' := ⟨[(0, .one (.e (.sl 0 0 x1.length))), (3, .one (.e (.sl 1 0 ((x87.set i88.toNat (⟨i119, s120, i121⟩ : Nod)).length)))), (4, I i88)], [.row .nod x1 false, .row .nod (x87.set i88.toNat (⟨i119, s120, i121⟩ : Nod)) true]⟩) (by simp only [List.length_set]) ?_
      refine WO_nil rfl ?_
      refine blockS_n ?_
      refine thenS_n ?_
      refine W_region ?_
      refine WO_step 3 [0, 1] [0, 3, 4] (True ∧ True) ⟨[(0, .one (.e (.sl 0 0 x1.length))), (3, .one (.e (.sl 1 0 ((x87.set i88.toNat (⟨i119, s120, i121⟩ : Nod)).length)))), (4, I (w64 (i88 + 1)))], [.row .nod x1 false, .row .nod (x87.set i88.toNat (⟨i119, s120, i121⟩ : Nod)) true]⟩ (by kernel_rfl) ⟨trivial, trivial⟩ ?_
      refine WO_nil rfl ?_
      refine thenS_n ?_
      exact ih _ _ h
    · refine W_sub [0, 1] [3] (st' := ⟨[(3, .one (.e (.sl 1 0 x87.length)))], [.row .nod x1 false, .row .nod x87 true]⟩) (by kernel_rfl) ?_
      refine W_exit ?_
      refine thenS_e ?_
      refine thenS_e ?_
      cases h
      exact And.intro rfl rfl

def laws_toNodeS (n : Nat) (x1 : List Nod) : Option ((List Nod)) :=
 guardO ((((x1.length : Nat) : Int) : Int) = ((x1.length : Nat) : Int) ∧ 0 ≤ ((x1.length : Nat) : Int) ∧ ((x1.length : Nat) : Int) ≤ 1099511627776) <|
 bindO (laws_toNodeS_L1 x1 n (List.replicate (((x1.length : Nat) : Int).toNat) dnod) 0) fun x107 =>
 some x107

theorem laws_toNodeS_ok (n : Nat) (x1 : List Nod) (x63 : List Nod) (h : laws_toNodeS n x1 = some x63) : FOk EE 17 [.one (.e (.sl 0 0 x1.length))] [.row .nod x1 false] (.one (.e (.sl 1 0 x63.length))) [.row .nod x1 false, .row .nod x63 true] := by
  unfold laws_toNodeS at h
  refine FOk_of_W 23 1 Try.func17 rfl rfl (Nat.le_of_ble_eq_true rfl) rfl (fun w X θ => ?_)
  refine W_seq ?_
  refine W_region ?_
  refine WO_step 1 [0] [0] True ⟨[(0, .one (.e (.sl 0 0 x1.length)))], [.row .nod x1 false]⟩ (by kernel_rfl) trivial ?_
  refine WO_nil rfl ?_
  refine thenS_n ?_
  refine W_seq ?_
  refine W_region ?_
  refine guardO_e h (fun hg64 h => ?_)
  refine WO_step 4 [0, 1] [0, 3] (True ∧ (((((x1.length : Nat) : Int) : Int) = ((x1.length : Nat) : Int) ∧ 0 ≤ ((x1.length : Nat) : Int) ∧ ((x1.length : Nat) : Int) ≤ 1099511627776) ∧ True)) ⟨[(0, .one (.e (.sl 0 0 x1.length))), (3, .one (.e (.sl 1 0 ((List.replicate (((x1.length : Nat) : Int).toNat) dnod).length))))], [.row .nod x1 false, .row .nod (List.replicate (((x1.length : Nat) : Int).toNat) dnod) true]⟩ (by kernel_rfl) ⟨trivial, hg64, trivial⟩ ?_
  refine WO_nil rfl ?_
  refine thenS_n ?_
  refine W_seq ?_
  refine W_seq ?_
  refine W_region ?_
  refine WO_step 1 [0, 1] [0, 3, 4] True ⟨[(0, .one (.e (.sl 0 0 x1.length))), (3, .one (.e (.sl 1 0 ((List.replicate (((x1.length : Nat) : Int).toNat) dnod).length)))), (4, I 0)], [.row .nod x1 false, .row .nod (List.replicate (((x1.length : Nat) : Int).toNat) dnod) true]⟩ (by kernel_rfl) trivial ?_
  refine WO_nil rfl ?_
  refine thenS_n ?_
  refine W_block ?_
  refine W_loop ?_
  refine bindO_e h (fun x107 hx107 h => ?_)
  refine WL_cut (laws_toNodeS_L1_ok w X θ x1 x107 n (List.replicate (((x1.length : Nat) : Int).toNat) dnod) 0 hx107) ?_
  rintro _ _ ⟨rfl, rfl⟩
  refine blockS_y ?_
  refine thenS_n ?_
  refine W_seq ?_
  refine W_region ?_
  refine WO_step 2 [0, 1] [2] True ⟨[(2, .one (.e (.sl 1 0 x107.length)))], [.row .nod x1 false, .row .nod x107 true]⟩ (by kernel_rfl) trivial ?_
  refine WO_nil rfl ?_
  refine thenS_n ?_
  refine W_ret ?_
  cases h
  exact ⟨[0, 1], True, by kernel_rfl, trivial⟩

/- laws.toEdit -/
def laws_toEdit (x1 : Edt) : Option (Int × Str × Int) :=
 some (x1.kind, x1.path, x1.value)

theorem laws_toEdit_ok (x1 : Edt) (i2 : Int) (s3 : Str) (i4 : Int) (h : laws_toEdit x1 = some (i2, s3, i4)) : FOk EE 47 [AGG [cI x1.kind, cS x1.path, cI x1.value]] [] (AGG [cI i2, cS s3, cI i4]) [] := by
  unfold laws_toEdit at h
  refine FOk_of_W 14 0 Try.func47 rfl rfl (Nat.le_of_ble_eq_true rfl) rfl (fun w X θ => ?_)
  refine W_seq ?_
  refine W_region ?_
  refine WO_step 2 [0, 1] [1, 2] (True ∧ (True ∧ True)) ⟨[(1, .one (.e (.p 0 0))), (2, .one (.e (.p 1 0)))], [.cells [cI x1.kind, cS x1.path, cI x1.value], .cells [cI 0, cS [], cI 0]]⟩ (by kernel_rfl) ⟨trivial, trivial, trivial⟩ ?_
  refine WO_nil rfl ?_
  refine thenS_n ?_
  refine W_seq ?_
  refine W_region ?_
  refine WO_step 1 [0, 1, 2] [1, 2, 3] (True ∧ True) ⟨[(1, .one (.e (.p 0 0))), (2, .one (.e (.p 1 0))), (3, .one (.e (.p 2 0)))], [.cells [cI x1.kind, cS x1.path, cI x1.value], .cells [cI 0, cS [], cI 0], .cells [cI 0, cS [], cI 0]]⟩ (by kernel_rfl) ⟨trivial, trivial⟩ ?_
  refine WO_nil rfl ?_
  refine thenS_n ?_
  refine W_seq ?_
  refine W_region ?_
  refine WO_step 4 [0, 1, 2] [1, 2, 3] (True ∧ (True ∧ True)) ⟨[(1, .one (.e (.p 0 0))), (2, .one (.e (.p 1 0))), (3, .one (.e (.p 2 0)))], [.cells [cI x1.kind, cS x1.path, cI x1.value], .cells [cI 0, cS [], cI 0], .cells [cI x1.kind, cS [], cI 0]]⟩ (by kernel_rfl) ⟨trivial, trivial, trivial⟩ ?_
  refine WO_nil rfl ?_
  refine thenS_n ?_
  refine W_seq ?_
  refine W_region ?_
  refine WO_step 4 [0, 1, 2] [1, 2, 3] (True ∧ (True ∧ True)) ⟨[(1, .one (.e (.p 0 0))), (2, .one (.e (.p 1 0))), (3, .one (.e (.p 2 0)))], [.cells [cI x1.kind, cS x1.path, cI x1.value], .cells [cI 0, cS [], cI 0], .cells [cI x1.kind, cS x1.path, cI 0]]⟩ (by kernel_rfl) ⟨trivial, trivial, trivial⟩ ?_
  refine WO_nil rfl ?_
  refine thenS_n ?_
  refine W_seq ?_
  refine W_region ?_
  refine WO_step 4 [1, 2] [2, 3] (True ∧ (True ∧ True)) ⟨[(2, .one (.e (.p 0 0))), (3, .one (.e (.p 1 0)))], [.cells [cI 0, cS [], cI 0], .cells [cI x1.kind, cS x1.path, cI x1.value]]⟩ (by kernel_rfl) ⟨trivial, trivial, trivial⟩ ?_
  refine WO_nil rfl ?_
  refine thenS_n ?_
  refine W_seq ?_
  refine W_region ?_
  refine WO_step 2 [0] [2] (True ∧ (True ∧ True)) ⟨[(2, .one (.e (.p 0 0)))], [.cells [cI x1.kind, cS x1.path, cI x1.value]]⟩ (by kernel_rfl) ⟨trivial, trivial, trivial⟩ ?_
  refine WO_nil rfl ?_
  refine thenS_n ?_
  refine W_ret ?_
  cases h
  exact ⟨[], True, by kernel_rfl, trivial⟩

/- laws.toEditS -/
def laws_toEditS_L1 (x1 : List Edt) : Nat → (List Edt) → Int → Option ((List Edt))
| 0, _, _ => none
| n + 1, x87, i88 =>
 iteO (decide (i88 < ((x1.length : Nat) : Int)))
 (guardO (0 ≤ i88 ∧ i88 < ((x1.length : Nat) : Int)) <|
 bindO (laws_toEdit (x1.getD i88.toNat dedt)) fun (i119, s120, i121) =>
 guardO (0 ≤ i88 ∧ i88 < ((x87.length : Nat) : Int)) <|
 laws_toEditS_L1 x1 n (x87.set i88.toNat (⟨i119, s120, i121⟩ : Edt)) (w64 (i88 + 1)))
 (some x87)

theorem laws_toEditS_L1_ok (w : World) (X : Nat → Prop) (θ : List Loc) (x1 : List Edt) (x107 : (List Edt)) : ∀ (n : Nat) (x87 : List Edt) (i88 : Int), laws_toEditS_L1 x1 n x87 i88 = some x107 → WL EE ⟨w, X, θ, 23, 1⟩ (subC [1, 1, 0, 1, 4, 4] (bodyC Try.f18)) (fun (e : Exit) (s : St) => e = .exit 0 ∧ s = ⟨[(3, .one (.e (.sl 1 0 x107.length)))], [.row .edt x1 false, .row .edt x107 true]⟩) ⟨[(0, .one (.e (.sl 0 0 x1.length))), (3, .one (.e (.sl 1 0 x87.length))), (4, I i88)], [.row .edt x1 false, .row .edt x87 true]⟩ := by
  intro n
  induction n with
  | zero => intro _ _ h; exact none_e h
  | succ n ih =>
    intro x87 i88 h
    rw [laws_toEditS_L1] at h
    refine WL_round ?_
    refine W_seq ?_
    refine W_seq ?_
    refine W_region ?_
    refine WO_step 4 [0, 1] [0, 3, 4, 11] (True ∧ (True ∧ True)) ⟨[(0, .one (.e (.sl 0 0 x1.length))), (3, .one (.e (.sl 1 0 x87.length))), (4, I i88), (11, B (decide (i88 < ((x1.length : Nat) : Int))))], [.row .edt x1 false, .row .edt x87 true]⟩ (by kernel_rfl) ⟨trivial, trivial, trivial⟩ ?_
    refine WO_nil rfl ?_
    refine thenS_n ?_
    refine iteO_e h (fun hb110 h => W_true rfl hb110 ?_) (fun hb110 h => W_false rfl hb110 ?_)
    · refine W_sub [0, 1] [0, 3, 4] (st' := ⟨[(0, .one (.e (.sl 0 0 x1.length))), (3, .one (.e (.sl 1 0 x87.length))), (4, I i88)], [.row .edt x1 false, .row .edt x87 true]⟩) (by kernel_rfl) ?_
      refine W_skip ?_
      refine thenS_n ?_
      refine W_seq ?_
      refine W_block ?_
      refine W_region ?_
      refine guardO_e h (fun hg118 h => ?_)
      refine WO_step 6 [0, 1] [0, 3, 4, 14, 15, 19] ((0 ≤ i88 ∧ i88 < ((x1.length : Nat) : Int)) ∧ (True ∧ True)) ⟨[(0, .one (.e (.sl 0 0 x1.length))), (3, .one (.e (.sl 1 0 x87.length))), (4, I i88), (14, .one (.e (.sl 1 0 x87.length))), (15, I i88), (19, AGG [cI ((x1.getD i88.toNat dedt).kind), cS ((x1.getD i88.toNat dedt).path), cI ((x1.getD i88.toNat dedt).value)])], [.row .edt x1 false, .row .edt x87 true]⟩ (by kernel_rfl) ⟨hg118, trivial, trivial⟩ ?_
      refine bindO_e h (fun v124 hc122 h => ?_)
      obtain ⟨i119, s120, i121⟩ := v124
      refine WO_call [] Try.f47 rfl rfl rfl (by kernel_rfl) Try.func47 rfl (by kernel_rfl) (laws_toEdit_ok (x1.getD i88.toNat dedt) i119 s120 i121 hc122) (trivial) rfl ?_
      refine guardO_e h (fun hg123 h => ?_)
      refine WO_step 2 [0, 1] [0, 3, 4] ((0 ≤ i88 ∧ i88 < ((x87.length : Nat) : Int)) ∧ (True ∧ True)) ⟨[(0, .one (.e (.sl 0 0 x1.length))), (3, .one (.e (.sl 1 0 x87.length))), (4, I i88)], [.row .edt x1 false, .row .edt (x87.set i88.toNat (⟨i119, s120, i121⟩ : Edt)) true]⟩ (by kernel_rfl) ⟨hg123, trivial, trivial⟩ ?_
      refine WO_eq (st' := ⟨[(0, .one (.e (.sl 0 0 x1.length))), (3, .one (.e (.sl 1 0 ((x87.set i88.toNat (⟨i119, s120, i121⟩ : Edt)).length)))), (4, I i88)], [.row .edt x1 false, .row .edt (x87.set i88.toNat (⟨i119, s120, i121⟩ : Edt)) true]⟩) (by simp only [List.length_set]) ?_
      refine WO_nil rfl ?_
      refine blockS_n ?_
      refine thenS_n ?_
      refine W_region ?_
      refine WO_step 3 [0, 1] [0, 3, 4] (True ∧ True) ⟨[(0, .one (.e (.sl 0 0 x1.length))), (3, .one (.e (.sl 1 0 ((x87.set i88.toNat (⟨i119, s120, i121⟩ : Edt)).length)))), (4, I (w64 (i88 + 1)))], [.row .edt x1 false, .row .edt (x87.set i88.toNat (⟨i119, s120, i121⟩ : Edt)) true]⟩ (by kernel_rfl) ⟨trivial, trivial⟩ ?_
      refine WO_nil rfl ?_
      refine thenS_n ?_
      exact ih _ _ h
    · refine W_sub [0, 1] [3] (st' := ⟨[(3, .one (.e (.sl 1 0 x87.length)))], [.row .edt x1 false, .row .edt x87 true]⟩) (by kernel_rfl) ?_
      refine W_exit ?_
      refine thenS_e ?_
      refine thenS_e ?_
      cases h
      exact And.intro rfl rfl

def laws_toEditS (n : Nat) (x1 : List Edt) : Option ((List Edt)) :=
 guardO ((((x1.length : Nat) : Int) : Int) = ((x1.length : Nat) : Int) ∧ 0 ≤ ((x1.length : Nat) : Int) ∧ ((x1.length : Nat) : Int) ≤ 1099511627776) <|
 bindO (laws_toEditS_L1 x1 n (List.replicate (((x1.length : Nat) : Int).toNat) dedt) 0) fun x107 =>
 some x107

theorem laws_toEditS_ok (n : Nat) (x1 : List Edt) (x63 : List Edt) (h : laws_toEditS n x1 = some x63) : FOk EE 18 [.one (.e (.sl 0 0 x1.length))] [.row .edt x1 false] (.one (.e (.sl 1 0 x63.length))) [.row .edt x1 false, .row .edt x63 true] := by
  unfold laws_toEditS at h
  refine FOk_of_W 23 1 Try.func18 rfl rfl (Nat.le_of_ble_eq_true rfl) rfl (fun w X θ => ?_)
  refine W_seq ?_
  refine W_region ?_
  refine WO_step 1 [0] [0] True ⟨[(0, .one (.e (.sl 0 0 x1.length)))], [.row .edt x1 false]⟩ (by kernel_rfl) trivial ?_
  refine WO_nil rfl ?_
  refine thenS_n ?_
  refine W_seq ?_
  refine W_region ?_
  refine guardO_e h (fun hg64 h => ?_)
  refine WO_step 4 [0, 1] [0, 3] (True ∧ (((((x1.length : Nat) : Int) : Int) = ((x1.length : Nat) : Int) ∧ 0 ≤ ((x1.length : Nat) : Int) ∧ ((x1.length : Nat) : Int) ≤ 1099511627776) ∧ True)) ⟨[(0, .one (.e (.sl 0 0 x1.length))), (3, .one (.e (.sl 1 0 ((List.replicate (((x1.length : Nat) : Int).toNat) dedt).length))))], [.row .edt x1 false, .row .edt (List.replicate (((x1.length : Nat) : Int).toNat) dedt) true]⟩ (by kernel_rfl) ⟨trivial, hg64, trivial⟩ ?_
  refine WO_nil rfl ?_
  refine thenS_n ?_
  refine W_seq ?_
  refine W_seq ?_
  refine W_region ?_
  refine WO_step 1 [0, 1] [0, 3, 4] True ⟨[(0, .one (.e (.sl 0 0 x1.length))), (3, .one (.e (.sl 1 0 ((List.replicate (((x1.length : Nat) : Int).toNat) dedt).length)))), (4, I 0)], [.row .edt x1 false, .row .edt (List.replicate (((x1.length : Nat) : Int).toNat) dedt) true]⟩ (by kernel_rfl) trivial ?_
  refine WO_nil rfl ?_
  refine thenS_n ?_
  refine W_block ?_
  refine W_loop ?_
  refine bindO_e h (fun x107 hx107 h => ?_)
  refine WL_cut (laws_toEditS_L1_ok w X θ x1 x107 n (List.replicate (((x1.length : Nat) : Int).toNat) dedt) 0 hx107) ?_
  rintro _ _ ⟨rfl, rfl⟩
  refine blockS_y ?_
  refine thenS_n ?_
  refine W_seq ?_
  refine W_region ?_
  refine WO_step 2 [0, 1] [2] True ⟨[(2, .one (.e (.sl 1 0 x107.length)))], [.row .edt x1 false, .row .edt x107 true]⟩ (by kernel_rfl) trivial ?_
  refine WO_nil rfl ?_
  refine thenS_n ?_
  refine W_ret ?_
  cases h
  exact ⟨[0, 1], True, by kernel_rfl, trivial⟩

/- spec.inRange -/
def spec_inRange (i1 : Int) (i2 : Int) (i3 : Int) : Bool :=
((decide (i2 ≤ i1)) && (decide (i1 ≤ i3)))

theorem spec_inRange_ok (i1 : Int) (i2 : Int) (i3 : Int) : FOk EE 65 [I i1, I i2, I i3] [] (B (spec_inRange i1 i2 i3)) [] := by
  refine FOk_of_W 15 0 Try.func65 rfl rfl (Nat.le_of_ble_eq_true rfl) rfl (fun w X θ => ?_)
  refine W_seq ?_
  refine W_region ?_
  refine WO_step 1 [] [0, 1, 2] True ⟨[(0, I i1), (1, I i2), (2, I i3)], []⟩ (by kernel_rfl) trivial ?_
  refine WO_nil rfl ?_
  refine thenS_n ?_
  refine W_seq ?_
  refine W_region ?_
  refine WO_step 4 [] [0, 2, 10] (True ∧ True) ⟨[(0, I i1), (2, I i3), (10, B (decide (i2 ≤ i1)))], []⟩ (by kernel_rfl) ⟨trivial, trivial⟩ ?_
  refine WO_thru ⟨[(6, B ((decide (i2 ≤ i1)) && (decide (i1 ≤ i3))))], []⟩ ?_ ?_
  · refine WO_if 10 rfl (fun hb10 => ?_) (fun hb10 => ?_)
    · refine WO_step 5 [] [6] (True ∧ True) ⟨[(6, B (decide (i1 ≤ i3)))], []⟩ (by kernel_rfl) ⟨trivial, trivial⟩ ?_
      exact WO_nil rfl ⟨rfl, by first | rfl | (rw [hb10]; first | done | rfl)⟩
    · refine WO_step 5 [] [6] True ⟨[(6, B false)], []⟩ (by kernel_rfl) trivial ?_
      exact WO_nil rfl ⟨rfl, by first | rfl | (rw [hb10]; first | done | rfl)⟩
  · refine thenS_n ?_
    refine W_ret ?_
    exact ⟨[], True, by kernel_rfl, trivial⟩

/- spec.validName -/
def spec_validName_L1 (s1 : Str) : Nat → Int → Option ((Unit) ⊕ (Unit))
| 0, _ => none
| n + 1, i44 =>
 iteO (decide (i44 < ((s1.length : Nat) : Int)))
 (guardO (0 ≤ i44 ∧ i44 < ((s1.length : Nat) : Int)) <|
 iteO (!(spec_inRange (w64 ((s1.getD i44.toNat 0).toNat : Int)) 97 122))
 (some (.inl ()))
 (spec_validName_L1 s1 n (w64 (i44 + 1))))
 (some (.inr ()))

theorem spec_validName_L1_ok (w : World) (X : Nat → Prop) (θ : List Loc) (s1 : Str) (v : (Unit) ⊕ (Unit)) : ∀ (n : Nat) (i44 : Int), spec_validName_L1 s1 n i44 = some v → WL EE ⟨w, X, θ, 19, 0⟩ (subC [1, 0, 1, 4, 4] (bodyC Try.f83)) (fun (e : Exit) (s : St) => (match v with | (.inl _) => e = .ret ∧ s = ⟨[(2, B false)], []⟩ | (.inr _) => e = .exit 0 ∧ s = ⟨[(0, S s1)], []⟩ : Prop)) ⟨[(0, S s1), (3, I i44)], []⟩ := by
  intro n
  induction n with
  | zero => intro _ h; exact none_e h
  | succ n ih =>
    intro i44 h
    rw [spec_validName_L1] at h
    refine WL_round ?_
    refine W_seq ?_
    refine W_seq ?_
    refine W_region ?_
    refine WO_step 4 [] [0, 3, 7] (True ∧ (True ∧ True)) ⟨[(0, S s1), (3, I i44), (7, B (decide (i44 < ((s1.length : Nat) : Int))))], []⟩ (by kernel_rfl) ⟨trivial, trivial, trivial⟩ ?_
    refine WO_nil rfl ?_
    refine thenS_n ?_
    refine iteO_e h (fun hb56 h => W_true rfl hb56 ?_) (fun hb56 h => W_false rfl hb56 ?_)
    · refine W_sub [] [0, 3] (st' := ⟨[(0, S s1), (3, I i44)], []⟩) (by kernel_rfl) ?_
      refine W_skip ?_
      refine thenS_n ?_
      refine W_seq ?_
      refine W_block ?_
      refine W_seq ?_
      refine W_region ?_
      refine guardO_e h (fun hg60 h => ?_)
      refine WO_step 4 [] [0, 3, 13] ((0 ≤ i44 ∧ i44 < ((s1.length : Nat) : Int)) ∧ (True ∧ True)) ⟨[(0, S s1), (3, I i44), (13, I (w64 ((s1.getD i44.toNat 0).toNat : Int)))], []⟩ (by kernel_rfl) ⟨hg60, trivial, trivial⟩ ?_
      refine WO_call [] Try.f65 rfl rfl rfl (by kernel_rfl) Try.func65 rfl (by kernel_rfl) (spec_inRange_ok (w64 ((s1.getD i44.toNat 0).toNat : Int)) 97 122) (trivial) rfl ?_
      refine WO_step 1 [] [0, 3, 15] True ⟨[(0, S s1), (3, I i44), (15, B (!(spec_inRange (w64 ((s1.getD i44.toNat 0).toNat : Int)) 97 122)))], []⟩ (by kernel_rfl) trivial ?_
      refine WO_nil rfl ?_
      refine thenS_n ?_
      refine iteO_e h (fun hb62 h => W_true rfl hb62 ?_) (fun hb62 h => W_false rfl hb62 ?_)
      · refine W_seq ?_
        refine W_region ?_
        refine WO_step 1 [] [2] True ⟨[(2, B false)], []⟩ (by kernel_rfl) trivial ?_
        refine WO_nil rfl ?_
        refine thenS_n ?_
        refine W_ret ?_
        refine blockS_r ?_
        refine thenS_r ?_
        refine thenS_r ?_
        cases h
        exact And.intro rfl rfl
      · refine W_sub [] [0, 3] (st' := ⟨[(0, S s1), (3, I i44)], []⟩) (by kernel_rfl) ?_
        refine W_skip ?_
        refine blockS_n ?_
        refine thenS_n ?_
        refine W_region ?_
        refine WO_step 3 [] [0, 3] (True ∧ True) ⟨[(0, S s1), (3, I (w64 (i44 + 1)))], []⟩ (by kernel_rfl) ⟨trivial, trivial⟩ ?_
        refine WO_nil rfl ?_
        refine thenS_n ?_
        exact ih _ h
    · refine W_sub [] [0] (st' := ⟨[(0, S s1)], []⟩) (by kernel_rfl) ?_
      refine W_exit ?_
      refine thenS_e ?_
      refine thenS_e ?_
      cases h
      exact And.intro rfl rfl

def spec_validName (n : Nat) (s1 : Str) : Option (Bool) :=
 bindO (spec_validName_L1 s1 n 0) fun v63 =>
 match v63 with
 | (.inl _) => (some false)
 | (.inr _) => (some (spec_inRange ((s1.length : Nat) : Int) 1 4))


theorem spec_validName_ok (n : Nat) (s1 : Str) (b32 : Bool) (h : spec_validName n s1 = some b32) : FOk EE 83 [S s1] [] (B b32) [] := by
  unfold spec_validName at h
  refine FOk_of_W 19 0 Try.func83 rfl rfl (Nat.le_of_ble_eq_true rfl) rfl (fun w X θ => ?_)
  refine W_seq ?_
  refine W_region ?_
  refine WO_step 1 [] [0] True ⟨[(0, S s1)], []⟩ (by kernel_rfl) trivial ?_
  refine WO_nil rfl ?_
  refine thenS_n ?_
  refine W_seq ?_
  refine W_seq ?_
  refine W_region ?_
  refine WO_step 1 [] [0, 3] True ⟨[(0, S s1), (3, I 0)], []⟩ (by kernel_rfl) trivial ?_
  refine WO_nil rfl ?_
  refine thenS_n ?_
  refine W_block ?_
  refine W_loop ?_
  refine bindO_e h (fun v63 hv63 h => ?_)
  refine WL_cut (spec_validName_L1_ok w X θ s1 v63 n 0 hv63) ?_
  rcases v63 with _ | _
  · rintro _ _ ⟨rfl, rfl⟩
    refine blockS_r ?_
    refine thenS_r ?_
    cases h
    exact ⟨[], True, by kernel_rfl, trivial⟩
  · rintro _ _ ⟨rfl, rfl⟩
    refine blockS_y ?_
    refine thenS_n ?_
    refine W_seq ?_
    refine W_region ?_
    refine WO_step 2 [] [17] (True ∧ True) ⟨[(17, I ((s1.length : Nat) : Int))], []⟩ (by kernel_rfl) ⟨trivial, trivial⟩ ?_
    refine WO_call [] Try.f65 rfl rfl rfl (by kernel_rfl) Try.func65 rfl (by kernel_rfl) (spec_inRange_ok ((s1.length : Nat) : Int) 1 4) (trivial) rfl ?_
    refine WO_step 1 [] [2] True ⟨[(2, B (spec_inRange ((s1.length : Nat) : Int) 1 4))], []⟩ (by kernel_rfl) trivial ?_
    refine WO_nil rfl ?_
    refine thenS_n ?_
    refine W_ret ?_
    cases h
    exact ⟨[], True, by kernel_rfl, trivial⟩

/- spec.kid -/
def spec_kid_L1 (x1 : List Nod) (i2 : Int) (s3 : Str) : Nat → Int → Option ((Int) ⊕ (Unit))
| 0, _ => none
| n + 1, i97 =>
 iteO (decide (i97 < ((x1.length : Nat) : Int)))
 (guardO (0 ≤ i97 ∧ i97 < ((x1.length : Nat) : Int)) <|
 bindO (iteO (decide (((x1.getD i97.toNat dnod).parent) = i2))
 (guardO (0 ≤ i97 ∧ i97 < ((x1.length : Nat) : Int)) <|
 some (decide (((x1.getD i97.toNat dnod).name) = s3)))
 (some false)) fun b135 =>
 iteO b135
 (some (.inl i97))
 (spec_kid_L1 x1 i2 s3 n (w64 (i97 + 1))))
 (some (.inr ()))

theorem spec_kid_L1_ok (w : World) (X : Nat → Prop) (θ : List Loc) (x1 : List Nod) (i2 : Int) (s3 : Str) (v : (Int) ⊕ (Unit)) : ∀ (n : Nat) (i97 : Int), spec_kid_L1 x1 i2 s3 n i97 = some v → WL EE ⟨w, X, θ, 31, 1⟩ (subC [1, 0, 1, 4, 4] (bodyC Try.f84)) (fun (e : Exit) (s : St) => (match v with | (.inl i119) => e = .ret ∧ s = ⟨[(6, I i119)], [.row .nod x1 false]⟩ | (.inr _) => e = .exit 0 ∧ s = ⟨[], [.row .nod x1 false]⟩ : Prop)) ⟨[(0, .one (.e (.sl 0 0 x1.length))), (1, I i2), (2, S s3), (7, I i97)], [.row .nod x1 false]⟩ := by
  intro n
  induction n with
  | zero => intro _ h; exact none_e h
  | succ n ih =>
    intro i97 h
    rw [spec_kid_L1] at h
    refine WL_round ?_
    refine W_seq ?_
    refine W_seq ?_
    refine W_region ?_
    refine WO_step 4 [0] [0, 1, 2, 7, 11] (True ∧ (True ∧ True)) ⟨[(0, .one (.e (.sl 0 0 x1.length))), (1, I i2), (2, S s3), (7, I i97), (11, B (decide (i97 < ((x1.length : Nat) : Int))))], [.row .nod x1 false]⟩ (by kernel_rfl) ⟨trivial, trivial, trivial⟩ ?_
    refine WO_nil rfl ?_
    refine thenS_n ?_
    refine iteO_e h (fun hb122 h => W_true rfl hb122 ?_) (fun hb122 h => W_false rfl hb122 ?_)
    · refine W_sub [0] [0, 1, 2, 7] (st' := ⟨[(0, .one (.e (.sl 0 0 x1.length))), (1, I i2), (2, S s3), (7, I i97)], [.row .nod x1 false]⟩) (by kernel_rfl) ?_
      refine W_skip ?_
      refine thenS_n ?_
      refine W_seq ?_
      refine W_block ?_
      refine W_seq ?_
      refine W_region ?_
      refine guardO_e h (fun hg132 h => ?_)
      refine WO_step 8 [0] [0, 1, 2, 7, 21] ((0 ≤ i97 ∧ i97 < ((x1.length : Nat) : Int)) ∧ (True ∧ (True ∧ True))) ⟨[(0, .one (.e (.sl 0 0 x1.length))), (1, I i2), (2, S s3), (7, I i97), (21, B (decide (((x1.getD i97.toNat dnod).parent) = i2)))], [.row .nod x1 false]⟩ (by kernel_rfl) ⟨hg132, trivial, trivial, trivial⟩ ?_
      refine bindO_e h (fun b135 hv136 h => ?_)
      refine WO_thru ⟨[(0, .one (.e (.sl 0 0 x1.length))), (1, I i2), (2, S s3), (7, I i97), (29, B b135)], [.row .nod x1 false]⟩ ?_ ?_
      · refine iteO_e hv136 (fun hb137 hv136 => WO_known 21 true rfl hb137 ?_) (fun hb137 hv136 => WO_known 21 false rfl hb137 ?_)
        · refine guardO_e hv136 (fun hg138 hv136 => ?_)
          refine WO_step 8 [0] [0, 1, 2, 7, 29] ((0 ≤ i97 ∧ i97 < ((x1.length : Nat) : Int)) ∧ (True ∧ (True ∧ True))) ⟨[(0, .one (.e (.sl 0 0 x1.length))), (1, I i2), (2, S s3), (7, I i97), (29, B (decide (((x1.getD i97.toNat dnod).name) = s3)))], [.row .nod x1 false]⟩ (by kernel_rfl) ⟨hg138, trivial, trivial, trivial⟩ ?_
          cases hv136
          exact WO_nil rfl ⟨rfl, rfl⟩
        · refine WO_step 8 [0] [0, 1, 2, 7, 29] True ⟨[(0, .one (.e (.sl 0 0 x1.length))), (1, I i2), (2, S s3), (7, I i97), (29, B false)], [.row .nod x1 false]⟩ (by kernel_rfl) trivial ?_
          cases hv136
          exact WO_nil rfl ⟨rfl, rfl⟩
      · refine thenS_n ?_
        refine iteO_e h (fun hb140 h => W_true rfl hb140 ?_) (fun hb140 h => W_false rfl hb140 ?_)
        · refine W_seq ?_
          refine W_region ?_
          refine WO_step 2 [0] [6] True ⟨[(6, I i97)], [.row .nod x1 false]⟩ (by kernel_rfl) trivial ?_
          refine WO_nil rfl ?_
          refine thenS_n ?_
          refine W_ret ?_
          refine blockS_r ?_
          refine thenS_r ?_
          refine thenS_r ?_
          cases h
          exact And.intro rfl rfl
        · refine W_sub [0] [0, 1, 2, 7] (st' := ⟨[(0, .one (.e (.sl 0 0 x1.length))), (1, I i2), (2, S s3), (7, I i97)], [.row .nod x1 false]⟩) (by kernel_rfl) ?_
          refine W_skip ?_
          refine blockS_n ?_
          refine thenS_n ?_
          refine W_region ?_
          refine WO_step 3 [0] [0, 1, 2, 7] (True ∧ True) ⟨[(0, .one (.e (.sl 0 0 x1.length))), (1, I i2), (2, S s3), (7, I (w64 (i97 + 1)))], [.row .nod x1 false]⟩ (by kernel_rfl) ⟨trivial, trivial⟩ ?_
          refine WO_nil rfl ?_
          refine thenS_n ?_
          exact ih _ h
    · refine W_sub [0] [] (st' := ⟨[], [.row .nod x1 false]⟩) (by kernel_rfl) ?_
      refine W_exit ?_
      refine thenS_e ?_
      refine thenS_e ?_
      cases h
      exact And.intro rfl rfl

def spec_kid (n : Nat) (x1 : List Nod) (i2 : Int) (s3 : Str) : Option (Int) :=
 bindO (spec_kid_L1 x1 i2 s3 n 1) fun v141 =>
 match v141 with
 | (.inl i119) => (some i119)
 | (.inr _) => (some (-1))


theorem spec_kid_ok (n : Nat) (x1 : List Nod) (i2 : Int) (s3 : Str) (i72 : Int) (h : spec_kid n x1 i2 s3 = some i72) : FOk EE 84 [.one (.e (.sl 0 0 x1.length)), I i2, S s3] [.row .nod x1 false] (I i72) [.row .nod x1 false] := by
  unfold spec_kid at h
  refine FOk_of_W 31 1 Try.func84 rfl rfl (Nat.le_of_ble_eq_true rfl) rfl (fun w X θ => ?_)
  refine W_seq ?_
  refine W_region ?_
  refine WO_step 1 [0] [0, 1, 2] True ⟨[(0, .one (.e (.sl 0 0 x1.length))), (1, I i2), (2, S s3)], [.row .nod x1 false]⟩ (by kernel_rfl) trivial ?_
  refine WO_nil rfl ?_
  refine thenS_n ?_
  refine W_seq ?_
  refine W_seq ?_
  refine W_region ?_
  refine WO_step 1 [0] [0, 1, 2, 7] True ⟨[(0, .one (.e (.sl 0 0 x1.length))), (1, I i2), (2, S s3), (7, I 1)], [.row .nod x1 false]⟩ (by kernel_rfl) trivial ?_
  refine WO_nil rfl ?_
  refine thenS_n ?_
  refine W_block ?_
  refine W_loop ?_
  refine bindO_e h (fun v141 hv141 h => ?_)
  refine WL_cut (spec_kid_L1_ok w X θ x1 i2 s3 v141 n 1 hv141) ?_
  rcases v141 with i119 | _
  · rintro _ _ ⟨rfl, rfl⟩
    refine blockS_r ?_
    refine thenS_r ?_
    cases h
    exact ⟨[0], True, by kernel_rfl, trivial⟩
  · rintro _ _ ⟨rfl, rfl⟩
    refine blockS_y ?_
    refine thenS_n ?_
    refine W_seq ?_
    refine W_region ?_
    refine WO_step 1 [0] [6] True ⟨[(6, I (-1))], [.row .nod x1 false]⟩ (by kernel_rfl) trivial ?_
    refine WO_nil rfl ?_
    refine thenS_n ?_
    refine W_ret ?_
    cases h
    exact ⟨[0], True, by kernel_rfl, trivial⟩

/- spec.depth -/
def spec_depth_L1 (x1 : List Nod) : Nat → Int → Int → Option (Int)
| 0, _, _ => none
| n + 1, i42, i43 =>
 guardO (0 ≤ i42 ∧ i42 < ((x1.length : Nat) : Int)) <|
 iteO (decide (0 ≤ ((x1.getD i42.toNat dnod).parent)))
 (guardO (0 ≤ i42 ∧ i42 < ((x1.length : Nat) : Int)) <|
 spec_depth_L1 x1 n ((x1.getD i42.toNat dnod).parent) (w64 (i43 + 1)))
 (some i43)

theorem spec_depth_L1_ok (w : World) (X : Nat → Prop) (θ : List Loc) (x1 : List Nod) (i51 : Int) : ∀ (n : Nat) (i42 : Int) (i43 : Int), spec_depth_L1 x1 n i42 i43 = some i51 → WL EE ⟨w, X, θ, 20, 1⟩ (subC [1, 1, 0, 4, 4] (bodyC Try.f85)) (fun (e : Exit) (s : St) => e = .exit 0 ∧ s = ⟨[(5, I i51)], [.row .nod x1 false]⟩) ⟨[(0, .one (.e (.sl 0 0 x1.length))), (1, I i42), (5, I i43)], [.row .nod x1 false]⟩ := by
  intro n
  induction n with
  | zero => intro _ _ h; exact none_e h
  | succ n ih =>
    intro i42 i43 h
    rw [spec_depth_L1] at h
    refine WL_round ?_
    refine W_seq ?_
    refine W_seq ?_
    refine W_region ?_
    refine guardO_e h (fun hg53 h => ?_)
    refine WO_step 6 [0] [0, 1, 5, 11] ((0 ≤ i42 ∧ i42 < ((x1.length : Nat) : Int)) ∧ (True ∧ (True ∧ True))) ⟨[(0, .one (.e (.sl 0 0 x1.length))), (1, I i42), (5, I i43), (11, B (decide (0 ≤ ((x1.getD i42.toNat dnod).parent))))], [.row .nod x1 false]⟩ (by kernel_rfl) ⟨hg53, trivial, trivial, trivial⟩ ?_
    refine WO_nil rfl ?_
    refine thenS_n ?_
    refine iteO_e h (fun hb55 h => W_true rfl hb55 ?_) (fun hb55 h => W_false rfl hb55 ?_)
    · refine W_sub [0] [0, 1, 5] (st' := ⟨[(0, .one (.e (.sl 0 0 x1.length))), (1, I i42), (5, I i43)], [.row .nod x1 false]⟩) (by kernel_rfl) ?_
      refine W_skip ?_
      refine thenS_n ?_
      refine W_block ?_
      refine W_seq ?_
      refine W_region ?_
      refine guardO_e h (fun hg57 h => ?_)
      refine WO_step 6 [0] [0, 1, 5] ((0 ≤ i42 ∧ i42 < ((x1.length : Nat) : Int)) ∧ (True ∧ True)) ⟨[(0, .one (.e (.sl 0 0 x1.length))), (1, I ((x1.getD i42.toNat dnod).parent)), (5, I i43)], [.row .nod x1 false]⟩ (by kernel_rfl) ⟨hg57, trivial, trivial⟩ ?_
      refine WO_nil rfl ?_
      refine thenS_n ?_
      refine W_region ?_
      refine WO_step 3 [0] [0, 1, 5] (True ∧ True) ⟨[(0, .one (.e (.sl 0 0 x1.length))), (1, I ((x1.getD i42.toNat dnod).parent)), (5, I (w64 (i43 + 1)))], [.row .nod x1 false]⟩ (by kernel_rfl) ⟨trivial, trivial⟩ ?_
      refine WO_nil rfl ?_
      refine blockS_n ?_
      refine thenS_n ?_
      exact ih _ _ h
    · refine W_sub [0] [5] (st' := ⟨[(5, I i43)], [.row .nod x1 false]⟩) (by kernel_rfl) ?_
      refine W_exit ?_
      refine thenS_e ?_
      refine thenS_e ?_
      cases h
      exact And.intro rfl rfl

def spec_depth (n : Nat) (x1 : List Nod) (i2 : Int) : Option (Int) :=
 bindO (spec_depth_L1 x1 n i2 0) fun i51 =>
 some i51

theorem spec_depth_ok (n : Nat) (x1 : List Nod) (i2 : Int) (i30 : Int) (h : spec_depth n x1 i2 = some i30) : FOk EE 85 [.one (.e (.sl 0 0 x1.length)), I i2] [.row .nod x1 false] (I i30) [.row .nod x1 false] := by
  unfold spec_depth at h
  refine FOk_of_W 20 1 Try.func85 rfl rfl (Nat.le_of_ble_eq_true rfl) rfl (fun w X θ => ?_)
  refine W_seq ?_
  refine W_region ?_
  refine WO_step 1 [0] [0, 1] True ⟨[(0, .one (.e (.sl 0 0 x1.length))), (1, I i2)], [.row .nod x1 false]⟩ (by kernel_rfl) trivial ?_
  refine WO_nil rfl ?_
  refine thenS_n ?_
  refine W_seq ?_
  refine W_region ?_
  refine WO_step 1 [0] [0, 1, 5] True ⟨[(0, .one (.e (.sl 0 0 x1.length))), (1, I i2), (5, I 0)], [.row .nod x1 false]⟩ (by kernel_rfl) trivial ?_
  refine WO_nil rfl ?_
  refine thenS_n ?_
  refine W_seq ?_
  refine W_block ?_
  refine W_loop ?_
  refine bindO_e h (fun i51 hi51 h => ?_)
  refine WL_cut (spec_depth_L1_ok w X θ x1 i51 n i2 0 hi51) ?_
  rintro _ _ ⟨rfl, rfl⟩
  refine blockS_y ?_
  refine thenS_n ?_
  refine W_seq ?_
  refine W_region ?_
  refine WO_step 2 [0] [4] True ⟨[(4, I i51)], [.row .nod x1 false]⟩ (by kernel_rfl) trivial ?_
  refine WO_nil rfl ?_
  refine thenS_n ?_
  refine W_ret ?_
  cases h
  exact ⟨[0], True, by kernel_rfl, trivial⟩

/- spec.validNode -/
def spec_validNode (n : Nat) (x1 : List Nod) (i2 : Int) : Option (Bool) :=
 guardO (0 ≤ i2 ∧ i2 < ((x1.length : Nat) : Int)) <|
 iteO (!(spec_inRange ((x1.getD i2.toNat dnod).value) (-1000) 1000))
 (some false)
 (iteO (decide (i2 = 0))
 (guardO (0 ≤ i2 ∧ i2 < ((x1.length : Nat) : Int)) <|
 bindO (iteO (decide (((x1.getD i2.toNat dnod).parent) = (-1)))
 (guardO (0 ≤ i2 ∧ i2 < ((x1.length : Nat) : Int)) <|
 some (decide (((x1.getD i2.toNat dnod).name) = [])))
 (some false)) fun b54 =>
 some b54)
 (guardO (0 ≤ i2 ∧ i2 < ((x1.length : Nat) : Int)) <|
 bindO (iteO (spec_inRange ((x1.getD i2.toNat dnod).parent) 0 (w64 (i2 - 1)))
 (guardO (0 ≤ i2 ∧ i2 < ((x1.length : Nat) : Int)) <|
 bindO (spec_validName n ((x1.getD i2.toNat dnod).name)) fun b61 =>
 iteO b61
 (guardO (0 ≤ i2 ∧ i2 ≤ ((x1.length : Nat) : Int)) <|
 guardO (0 ≤ i2 ∧ i2 < ((x1.length : Nat) : Int)) <|
 guardO (0 ≤ i2 ∧ i2 < ((x1.length : Nat) : Int)) <|
 bindO (spec_kid n ((x1.drop 0).take i2.toNat) ((x1.getD i2.toNat dnod).parent) ((x1.getD i2.toNat dnod).name)) fun i67 =>
 iteO (decide (i67 < 0))
 (bindO (spec_depth n x1 i2) fun i70 =>
 some (decide (i70 ≤ 4)))
 (some false))
 (some false))
 (some false)) fun b72 =>
 some b72))

theorem spec_validNode_ok (n : Nat) (x1 : List Nod) (i2 : Int) (b38 : Bool) (h : spec_validNode n x1 i2 = some b38) : FOk EE 64 [.one (.e (.sl 0 0 x1.length)), I i2] [.row .nod x1 false] (B b38) [.row .nod x1 false] := by
  unfold spec_validNode at h
  refine FOk_of_W 67 1 Try.func64 rfl rfl (Nat.le_of_ble_eq_true rfl) rfl (fun w X θ => ?_)
  refine W_seq ?_
  refine W_region ?_
  refine WO_step 1 [0] [0, 1] True ⟨[(0, .one (.e (.sl 0 0 x1.length))), (1, I i2)], [.row .nod x1 false]⟩ (by kernel_rfl) trivial ?_
  refine WO_nil rfl ?_
  refine thenS_n ?_
  refine W_seq ?_
  refine W_seq ?_
  refine W_region ?_
  refine guardO_e h (fun hg39 h => ?_)
  refine WO_step 5 [0] [0, 1, 9] ((0 ≤ i2 ∧ i2 < ((x1.length : Nat) : Int)) ∧ (True ∧ True)) ⟨[(0, .one (.e (.sl 0 0 x1.length))), (1, I i2), (9, I ((x1.getD i2.toNat dnod).value))], [.row .nod x1 false]⟩ (by kernel_rfl) ⟨hg39, trivial, trivial⟩ ?_
  refine WO_call [] Try.f65 rfl rfl rfl (by kernel_rfl) Try.func65 rfl (by kernel_rfl) (spec_inRange_ok ((x1.getD i2.toNat dnod).value) (-1000) 1000) (trivial) rfl ?_
  refine WO_step 1 [0] [0, 1, 11] True ⟨[(0, .one (.e (.sl 0 0 x1.length))), (1, I i2), (11, B (!(spec_inRange ((x1.getD i2.toNat dnod).value) (-1000) 1000)))], [.row .nod x1 false]⟩ (by kernel_rfl) trivial ?_
  refine WO_nil rfl ?_
  refine thenS_n ?_
  refine iteO_e h (fun hb41 h => W_true rfl hb41 ?_) (fun hb41 h => W_false rfl hb41 ?_)
  · refine W_seq ?_
    refine W_region ?_
    refine WO_step 1 [0] [4] True ⟨[(4, B false)], [.row .nod x1 false]⟩ (by kernel_rfl) trivial ?_
    refine WO_nil rfl ?_
    refine thenS_n ?_
    refine W_ret ?_
    refine thenS_r ?_
    cases h
    exact ⟨[0], True, by kernel_rfl, trivial⟩
  · refine W_sub [0] [0, 1] (st' := ⟨[(0, .one (.e (.sl 0 0 x1.length))), (1, I i2)], [.row .nod x1 false]⟩) (by kernel_rfl) ?_
    refine W_skip ?_
    refine thenS_n ?_
    refine W_seq ?_
    refine W_seq ?_
    refine W_region ?_
    refine WO_step 2 [0] [0, 1, 13] (True ∧ True) ⟨[(0, .one (.e (.sl 0 0 x1.length))), (1, I i2), (13, B (decide (i2 = 0)))], [.row .nod x1 false]⟩ (by kernel_rfl) ⟨trivial, trivial⟩ ?_
    refine WO_nil rfl ?_
    refine thenS_n ?_
    refine iteO_e h (fun hb50 h => W_true rfl hb50 ?_) (fun hb50 h => W_false rfl hb50 ?_)
    · refine W_seq ?_
      refine W_region ?_
      refine guardO_e h (fun hg51 h => ?_)
      refine WO_step 7 [0] [0, 1, 20] ((0 ≤ i2 ∧ i2 < ((x1.length : Nat) : Int)) ∧ (True ∧ (True ∧ True))) ⟨[(0, .one (.e (.sl 0 0 x1.length))), (1, I i2), (20, B (decide (((x1.getD i2.toNat dnod).parent) = (-1))))], [.row .nod x1 false]⟩ (by kernel_rfl) ⟨hg51, trivial, trivial, trivial⟩ ?_
      refine bindO_e h (fun b54 hv55 h => ?_)
      refine WO_thru ⟨[(4, B b54)], [.row .nod x1 false]⟩ ?_ ?_
      · refine iteO_e hv55 (fun hb56 hv55 => WO_known 20 true rfl hb56 ?_) (fun hb56 hv55 => WO_known 20 false rfl hb56 ?_)
        · refine guardO_e hv55 (fun hg57 hv55 => ?_)
          refine WO_step 8 [0] [4] ((0 ≤ i2 ∧ i2 < ((x1.length : Nat) : Int)) ∧ (True ∧ (True ∧ True))) ⟨[(4, B (decide (((x1.getD i2.toNat dnod).name) = [])))], [.row .nod x1 false]⟩ (by kernel_rfl) ⟨hg57, trivial, trivial, trivial⟩ ?_
          cases hv55
          exact WO_nil rfl ⟨rfl, rfl⟩
        · refine WO_step 8 [0] [4] True ⟨[(4, B false)], [.row .nod x1 false]⟩ (by kernel_rfl) trivial ?_
          cases hv55
          exact WO_nil rfl ⟨rfl, rfl⟩
      · refine thenS_n ?_
        refine W_ret ?_
        refine thenS_r ?_
        cases h
        exact ⟨[0], True, by kernel_rfl, trivial⟩
    · refine W_sub [0] [0, 1] (st' := ⟨[(0, .one (.e (.sl 0 0 x1.length))), (1, I i2)], [.row .nod x1 false]⟩) (by kernel_rfl) ?_
      refine W_skip ?_
      refine thenS_n ?_
      refine W_seq ?_
      refine guardO_e h (fun hg58 h => ?_)
      refine bindO_e h (fun b72 hv73 h => ?_)
      refine W_cut (Q' := fun (e : Exit) (s : St) => e = .normal ∧ s = ⟨[(4, B b72)], [.row .nod x1 false]⟩) ?_ ?_
      · refine iteO_e hv73 (fun hb59 hv73 => ?_) (fun hb59 hv73 => ?_)
        · refine guardO_e hv73 (fun hg60 hv73 => ?_)
          refine bindO_e hv73 (fun b61 hc62 hv73 => ?_)
          refine iteO_e hv73 (fun hb63 hv73 => ?_) (fun hb63 hv73 => ?_)
          · refine guardO_e hv73 (fun hg64 hv73 => ?_)
            refine guardO_e hv73 (fun hg65 hv73 => ?_)
            refine guardO_e hv73 (fun hg66 hv73 => ?_)
            refine bindO_e hv73 (fun i67 hc68 hv73 => ?_)
            refine iteO_e hv73 (fun hb69 hv73 => ?_) (fun hb69 hv73 => ?_)
            · refine bindO_e hv73 (fun i70 hc71 hv73 => ?_)
              refine W_draw [] false (by kernel_rfl) (by kernel_rfl) ?_
              refine WD_takeK [0, 1, 2, 3, 4, 5, 6] [0, 1, 32, 34] [0, 1, 32, 34] (φ := ((0 ≤ i2 ∧ i2 < ((x1.length : Nat) : Int)) ∧ (0 ≤ i2 ∧ i2 < ((x1.length : Nat) : Int)) ∧ (True ∧ True ∧ (True ∧ True ∧ True)))) (ls' := #[true, true, true, true, true, true, true, false, false, false, false, false, false, false, false, false, false, false, false, false, false, false, false, false, false, false, false, false, false, false, false, false, false, false, false, false, false, false, false, false]) (Ts' := [(0, .one (.e (.sl 0 0 x1.length))), (1, I i2), (32, I ((x1.getD i2.toNat dnod).parent)), (34, I (w64 (i2 - 1)))]) (st' := ⟨[(0, .one (.e (.sl 0 0 x1.length))), (1, I i2), (32, I ((x1.getD i2.toNat dnod).parent)), (34, I (w64 (i2 - 1)))], [.row .nod x1 false]⟩) (n2 := 33) (by kernel_rfl) ⟨hg58, hg58, trivial, trivial, trivial, trivial, trivial⟩ rfl ?_
              refine WD_all [7] (n := 32) (by kernel_rfl) rfl ?_
              refine WM_call [] Try.f65 rfl rfl (by kernel_rfl) Try.func65 rfl (by kernel_rfl) (spec_inRange_ok ((x1.getD i2.toNat dnod).parent) 0 (w64 (i2 - 1))) (trivial) rfl (And.intro rfl (trivial)) ?_
              refine WD_takeK [8] [0, 1, 36] [0, 1, 36] (φ := True) (ls' := #[true, true, true, true, true, true, true, true, true, false, false, false, false, false, false, false, false, false, false, false, false, false, false, false, false, false, false, false, false, false, false, false, false, false, false, false, false, false, false, false]) (Ts' := [(0, .one (.e (.sl 0 0 x1.length))), (1, I i2), (36, B (spec_inRange ((x1.getD i2.toNat dnod).parent) 0 (w64 (i2 - 1))))]) (st' := ⟨[(0, .one (.e (.sl 0 0 x1.length))), (1, I i2), (36, B (spec_inRange ((x1.getD i2.toNat dnod).parent) 0 (w64 (i2 - 1))))], [.row .nod x1 false]⟩) (n2 := 31) (by kernel_rfl) trivial rfl ?_
              refine WD_known 36 true rfl rfl hb59 ?_
              refine WD_takeK [9, 10, 11, 12, 13] [0, 1, 36, 41] [0, 1, 36, 41] (φ := ((0 ≤ i2 ∧ i2 < ((x1.length : Nat) : Int)) ∧ (0 ≤ i2 ∧ i2 < ((x1.length : Nat) : Int)) ∧ (True ∧ True ∧ True))) (ls' := #[true, true, true, true, true, true, true, true, true, true, true, true, true, true, false, false, false, false, false, false, false, false, false, false, false, false, false, false, false, false, false, false, false, false, false, false, false, false, false, false]) (Ts' := [(0, .one (.e (.sl 0 0 x1.length))), (1, I i2), (36, B true), (41, S ((x1.getD i2.toNat dnod).name))]) (st' := ⟨[(0, .one (.e (.sl 0 0 x1.length))), (1, I i2), (36, B true), (41, S ((x1.getD i2.toNat dnod).name))], [.row .nod x1 false]⟩) (n2 := 26) (by kernel_rfl) ⟨hg60, hg60, trivial, trivial, trivial⟩ rfl ?_
              refine WD_all [14] (n := 25) (by kernel_rfl) rfl ?_
              refine WM_call [] Try.f83 rfl rfl (by kernel_rfl) Try.func83 rfl (by kernel_rfl) (spec_validName_ok n ((x1.getD i2.toNat dnod).name) b61 hc62) (trivial) rfl (And.intro rfl (trivial)) ?_
              refine WD_takeK [15, 16] [0, 1, 44] [0, 1, 44] (φ := True) (ls' := #[true, true, true, true, true, true, true, true, true, true, true, true, true, true, true, true, true, false, false, false, false, false, false, false, false, false, false, false, false, false, false, false, false, false, false, false, false, false, false, false]) (Ts' := [(0, .one (.e (.sl 0 0 x1.length))), (1, I i2), (44, B b61)]) (st' := ⟨[(0, .one (.e (.sl 0 0 x1.length))), (1, I i2), (44, B b61)], [.row .nod x1 false]⟩) (n2 := 23) (by kernel_rfl) trivial rfl ?_
              refine WD_known 44 true rfl rfl hb63 ?_
              refine WD_takeK [17, 18, 20, 21, 22, 23, 24, 25, 26, 27, 28, 29] [0, 1, 44, 45, 46, 52, 57] [0, 1, 44, 45, 46, 52, 57] (φ := ((0 ≤ i2 ∧ i2 < ((x1.length : Nat) : Int)) ∧ (0 ≤ i2 ∧ i2 < ((x1.length : Nat) : Int)) ∧ (True ∧ True ∧ ((0 ≤ i2 ∧ i2 < ((x1.length : Nat) : Int)) ∧ (0 ≤ i2 ∧ i2 < ((x1.length : Nat) : Int)) ∧ (True ∧ True ∧ True))))) (ls' := #[true, true, true, true, true, true, true, true, true, true, true, true, true, true, true, true, true, true, true, false, true, true, true, true, true, true, true, true, true, true, false, false, false, false, false, false, false, false, false, false]) (Ts' := [(0, .one (.e (.sl 0 0 x1.length))), (1, I i2), (44, B true), (45, .one (.e (.sl 0 0 x1.length))), (46, I i2), (52, I ((x1.getD i2.toNat dnod).parent)), (57, S ((x1.getD i2.toNat dnod).name))]) (st' := ⟨[(0, .one (.e (.sl 0 0 x1.length))), (1, I i2), (44, B true), (45, .one (.e (.sl 0 0 x1.length))), (46, I i2), (52, I ((x1.getD i2.toNat dnod).parent)), (57, S ((x1.getD i2.toNat dnod).name))], [.row .nod x1 false]⟩) (n2 := 11) (by kernel_rfl) ⟨hg65, hg65, trivial, trivial, hg66, hg66, trivial, trivial, trivial⟩ rfl ?_
              refine WD_all [19] (n := 10) (by kernel_rfl) rfl ?_
              refine WM_op (φ := 0 ≤ i2 ∧ i2 ≤ ((x1.length : Nat) : Int)) (v := .one (.e (.sl 0 0 i2.toNat))) (H' := [.row .nod x1 false]) rfl rfl (by kernel_rfl) hg64 rfl (And.intro rfl (trivial)) ?_
              refine WD_all [30] (n := 9) (by kernel_rfl) rfl ?_
              refine WM_call [.view 0] Try.f84 rfl rfl (by kernel_rfl) Try.func84 rfl (by kernel_rfl) (spec_kid_ok n ((x1.drop 0).take i2.toNat) ((x1.getD i2.toNat dnod).parent) ((x1.getD i2.toNat dnod).name) i67 hc68) (trivial) rfl (And.intro rfl (trivial)) ?_
              refine WD_takeK [31, 32, 33] [0, 1, 61] [0, 1, 61] (φ := (True ∧ True ∧ True)) (ls' := #[true, true, true, true, true, true, true, true, true, true, true, true, true, true, true, true, true, true, true, true, true, true, true, true, true, true, true, true, true, true, true, true, true, true, false, false, false, false, false, false]) (Ts' := [(0, .one (.e (.sl 0 0 x1.length))), (1, I i2), (61, B (decide (i67 < 0)))]) (st' := ⟨[(0, .one (.e (.sl 0 0 x1.length))), (1, I i2), (61, B (decide (i67 < 0)))], [.row .nod x1 false]⟩) (n2 := 6) (by kernel_rfl) ⟨trivial, trivial, trivial⟩ rfl ?_
              refine WD_known 61 true rfl rfl hb69 ?_
              refine WD_takeK [34, 35] [61, 62, 63] [61, 62, 63] (φ := True) (ls' := #[true, true, true, true, true, true, true, true, true, true, true, true, true, true, true, true, true, true, true, true, true, true, true, true, true, true, true, true, true, true, true, true, true, true, true, true, false, false, false, false]) (Ts' := [(61, B true), (62, .one (.e (.sl 0 0 x1.length))), (63, I i2)]) (st' := ⟨[(61, B true), (62, .one (.e (.sl 0 0 x1.length))), (63, I i2)], [.row .nod x1 false]⟩) (n2 := 4) (by kernel_rfl) trivial rfl ?_
              refine WD_all [36] (n := 3) (by kernel_rfl) rfl ?_
              refine WM_call [.ro 0] Try.f85 rfl rfl (by kernel_rfl) Try.func85 rfl (by kernel_rfl) (spec_depth_ok n x1 i2 i70 hc71) (And.intro (And.intro rfl rfl) (trivial)) rfl (And.intro rfl (trivial)) ?_
              refine WD_takeK [37, 38, 39] [4] [4] (φ := (True ∧ True ∧ True)) (ls' := #[true, true, true, true, true, true, true, true, true, true, true, true, true, true, true, true, true, true, true, true, true, true, true, true, true, true, true, true, true, true, true, true, true, true, true, true, true, true, true, true]) (Ts' := [(4, B (decide (i70 ≤ 4)))]) (st' := ⟨[(4, B (decide (i70 ≤ 4)))], [.row .nod x1 false]⟩) (n2 := 0) (by kernel_rfl) ⟨trivial, trivial, trivial⟩ rfl ?_
              exact WD_done [0] [4] (st' := ⟨[(4, B (decide (i70 ≤ 4)))], [.row .nod x1 false]⟩) (by kernel_rfl) (by kernel_rfl) (And.intro rfl (by cases hv73; rfl))
            · refine W_draw [] false (by kernel_rfl) (by kernel_rfl) ?_
              refine WD_takeK [0, 1, 2, 3, 4, 5, 6] [0, 1, 32, 34] [0, 1, 32, 34] (φ := ((0 ≤ i2 ∧ i2 < ((x1.length : Nat) : Int)) ∧ (0 ≤ i2 ∧ i2 < ((x1.length : Nat) : Int)) ∧ (True ∧ True ∧ (True ∧ True ∧ True)))) (ls' := #[true, true, true, true, true, true, true, false, false, false, false, false, false, false, false, false, false, false, false, false, false, false, false, false, false, false, false, false, false, false, false, false, false, false, false, false, false, false, false, false]) (Ts' := [(0, .one (.e (.sl 0 0 x1.length))), (1, I i2), (32, I ((x1.getD i2.toNat dnod).parent)), (34, I (w64 (i2 - 1)))]) (st' := ⟨[(0, .one (.e (.sl 0 0 x1.length))), (1, I i2), (32, I ((x1.getD i2.toNat dnod).parent)), (34, I (w64 (i2 - 1)))], [.row .nod x1 false]⟩) (n2 := 33) (by kernel_rfl) ⟨hg58, hg58, trivial, trivial, trivial, trivial, trivial⟩ rfl ?_
              refine WD_all [7] (n := 32) (by kernel_rfl) rfl ?_
              refine WM_call [] Try.f65 rfl rfl (by kernel_rfl) Try.func65 rfl (by kernel_rfl) (spec_inRange_ok ((x1.getD i2.toNat dnod).parent) 0 (w64 (i2 - 1))) (trivial) rfl (And.intro rfl (trivial)) ?_
              refine WD_takeK [8] [0, 1, 36] [0, 1, 36] (φ := True) (ls' := #[true, true, true, true, true, true, true, true, true, false, false, false, false, false, false, false, false, false, false, false, false, false, false, false, false, false, false, false, false, false, false, false, false, false, false, false, false, false, false, false]) (Ts' := [(0, .one (.e (.sl 0 0 x1.length))), (1, I i2), (36, B (spec_inRange ((x1.getD i2.toNat dnod).parent) 0 (w64 (i2 - 1))))]) (st' := ⟨[(0, .one (.e (.sl 0 0 x1.length))), (1, I i2), (36, B (spec_inRange ((x1.getD i2.toNat dnod).parent) 0 (w64 (i2 - 1))))], [.row .nod x1 false]⟩) (n2 := 31) (by kernel_rfl) trivial rfl ?_
              refine WD_known 36 true rfl rfl hb59 ?_
              refine WD_takeK [9, 10, 11, 12, 13] [0, 1, 36, 41] [0, 1, 36, 41] (φ := ((0 ≤ i2 ∧ i2 < ((x1.length : Nat) : Int)) ∧ (0 ≤ i2 ∧ i2 < ((x1.length : Nat) : Int)) ∧ (True ∧ True ∧ True))) (ls' := #[true, true, true, true, true, true, true, true, true, true, true, true, true, true, false, false, false, false, false, false, false, false, false, false, false, false, false, false, false, false, false, false, false, false, false, false, false, false, false, false]) (Ts' := [(0, .one (.e (.sl 0 0 x1.length))), (1, I i2), (36, B true), (41, S ((x1.getD i2.toNat dnod).name))]) (st' := ⟨[(0, .one (.e (.sl 0 0 x1.length))), (1, I i2), (36, B true), (41, S ((x1.getD i2.toNat dnod).name))], [.row .nod x1 false]⟩) (n2 := 26) (by kernel_rfl) ⟨hg60, hg60, trivial, trivial, trivial⟩ rfl ?_
              refine WD_all [14] (n := 25) (by kernel_rfl) rfl ?_
              refine WM_call [] Try.f83 rfl rfl (by kernel_rfl) Try.func83 rfl (by kernel_rfl) (spec_validName_ok n ((x1.getD i2.toNat dnod).name) b61 hc62) (trivial) rfl (And.intro rfl (trivial)) ?_
              refine WD_takeK [15, 16] [0, 1, 44] [0, 1, 44] (φ := True) (ls' := #[true, true, true, true, true, true, true, true, true, true, true, true, true, true, true, true, true, false, false, false, false, false, false, false, false, false, false, false, false, false, false, false, false, false, false, false, false, false, false, false]) (Ts' := [(0, .one (.e (.sl 0 0 x1.length))), (1, I i2), (44, B b61)]) (st' := ⟨[(0, .one (.e (.sl 0 0 x1.length))), (1, I i2), (44, B b61)], [.row .nod x1 false]⟩) (n2 := 23) (by kernel_rfl) trivial rfl ?_
              refine WD_known 44 true rfl rfl hb63 ?_
              refine WD_takeK [17, 18, 20, 21, 22, 23, 24, 25, 26, 27, 28, 29] [0, 1, 44, 45, 46, 52, 57] [0, 1, 44, 45, 46, 52, 57] (φ := ((0 ≤ i2 ∧ i2 < ((x1.length : Nat) : Int)) ∧ (0 ≤ i2 ∧ i2 < ((x1.length : Nat) : Int)) ∧ (True ∧ True ∧ ((0 ≤ i2 ∧ i2 < ((x1.length : Nat) : Int)) ∧ (0 ≤ i2 ∧ i2 < ((x1.length : Nat) : Int)) ∧ (True ∧ True ∧ True))))) (ls' := #[true, true, true, true, true, true, true, true, true, true, true, true, true, true, true, true, true, true, true, false, true, true, true, true, true, true, true, true, true, true, false, false, false, false, false, false, false, false, false, false]) (Ts' := [(0, .one (.e (.sl 0 0 x1.length))), (1, I i2), (44, B true), (45, .one (.e (.sl 0 0 x1.length))), (46, I i2), (52, I ((x1.getD i2.toNat dnod).parent)), (57, S ((x1.getD i2.toNat dnod).name))]) (st' := ⟨[(0, .one (.e (.sl 0 0 x1.length))), (1, I i2), (44, B true), (45, .one (.e (.sl 0 0 x1.length))), (46, I i2), (52, I ((x1.getD i2.toNat dnod).parent)), (57, S ((x1.getD i2.toNat dnod).name))], [.row .nod x1 false]⟩) (n2 := 11) (by kernel_rfl) ⟨hg65, hg65, trivial, trivial, hg66, hg66, trivial, trivial, trivial⟩ rfl ?_
              refine WD_all [19] (n := 10) (by kernel_rfl) rfl ?_
              refine WM_op (φ := 0 ≤ i2 ∧ i2 ≤ ((x1.length : Nat) : Int)) (v := .one (.e (.sl 0 0 i2.toNat))) (H' := [.row .nod x1 false]) rfl rfl (by kernel_rfl) hg64 rfl (And.intro rfl (trivial)) ?_
              refine WD_all [30] (n := 9) (by kernel_rfl) rfl ?_
              refine WM_call [.view 0] Try.f84 rfl rfl (by kernel_rfl) Try.func84 rfl (by kernel_rfl) (spec_kid_ok n ((x1.drop 0).take i2.toNat) ((x1.getD i2.toNat dnod).parent) ((x1.getD i2.toNat dnod).name) i67 hc68) (trivial) rfl (And.intro rfl (trivial)) ?_
              refine WD_takeK [31, 32, 33] [0, 1, 61] [0, 1, 61] (φ := (True ∧ True ∧ True)) (ls' := #[true, true, true, true, true, true, true, true, true, true, true, true, true, true, true, true, true, true, true, true, true, true, true, true, true, true, true, true, true, true, true, true, true, true, false, false, false, false, false, false]) (Ts' := [(0, .one (.e (.sl 0 0 x1.length))), (1, I i2), (61, B (decide (i67 < 0)))]) (st' := ⟨[(0, .one (.e (.sl 0 0 x1.length))), (1, I i2), (61, B (decide (i67 < 0)))], [.row .nod x1 false]⟩) (n2 := 6) (by kernel_rfl) ⟨trivial, trivial, trivial⟩ rfl ?_
              refine WD_known 61 false rfl rfl hb69 ?_
              refine WD_takeK [34, 35, 36, 37, 38, 39] [4] [4] (φ := True) (ls' := #[true, true, true, true, true, true, true, true, true, true, true, true, true, true, true, true, true, true, true, true, true, true, true, true, true, true, true, true, true, true, true, true, true, true, true, true, true, true, true, true]) (Ts' := [(4, B false)]) (st' := ⟨[(4, B false)], [.row .nod x1 false]⟩) (n2 := 0) (by kernel_rfl) trivial rfl ?_
              exact WD_done [0] [4] (st' := ⟨[(4, B false)], [.row .nod x1 false]⟩) (by kernel_rfl) (by kernel_rfl) (And.intro rfl (by cases hv73; rfl))
          · refine W_draw [] false (by kernel_rfl) (by kernel_rfl) ?_
            refine WD_takeK [0, 1, 2, 3, 4, 5, 6] [0, 1, 32, 34] [0, 1, 32, 34] (φ := ((0 ≤ i2 ∧ i2 < ((x1.length : Nat) : Int)) ∧ (0 ≤ i2 ∧ i2 < ((x1.length : Nat) : Int)) ∧ (True ∧ True ∧ (True ∧ True ∧ True)))) (ls' := #[true, true, true, true, true, true, true, false, false, false, false, false, false, false, false, false, false, false, false, false, false, false, false, false, false, false, false, false, false, false, false, false, false, false, false, false, false, false, false, false]) (Ts' := [(0, .one (.e (.sl 0 0 x1.length))), (1, I i2), (32, I ((x1.getD i2.toNat dnod).parent)), (34, I (w64 (i2 - 1)))]) (st' := ⟨[(0, .one (.e (.sl 0 0 x1.length))), (1, I i2), (32, I ((x1.getD i2.toNat dnod).parent)), (34, I (w64 (i2 - 1)))], [.row .nod x1 false]⟩) (n2 := 33) (by kernel_rfl) ⟨hg58, hg58, trivial, trivial, trivial, trivial, trivial⟩ rfl ?_
            refine WD_all [7] (n := 32) (by kernel_rfl) rfl ?_
            refine WM_call [] Try.f65 rfl rfl (by kernel_rfl) Try.func65 rfl (by kernel_rfl) (spec_inRange_ok ((x1.getD i2.toNat dnod).parent) 0 (w64 (i2 - 1))) (trivial) rfl (And.intro rfl (trivial)) ?_
            refine WD_takeK [8] [0, 1, 36] [0, 1, 36] (φ := True) (ls' := #[true, true, true, true, true, true, true, true, true, false, false, false, false, false, false, false, false, false, false, false, false, false, false, false, false, false, false, false, false, false, false, false, false, false, false, false, false, false, false, false]) (Ts' := [(0, .one (.e (.sl 0 0 x1.length))), (1, I i2), (36, B (spec_inRange ((x1.getD i2.toNat dnod).parent) 0 (w64 (i2 - 1))))]) (st' := ⟨[(0, .one (.e (.sl 0 0 x1.length))), (1, I i2), (36, B (spec_inRange ((x1.getD i2.toNat dnod).parent) 0 (w64 (i2 - 1))))], [.row .nod x1 false]⟩) (n2 := 31) (by kernel_rfl) trivial rfl ?_
            refine WD_known 36 true rfl rfl hb59 ?_
            refine WD_takeK [9, 10, 11, 12, 13] [0, 1, 36, 41] [0, 1, 36, 41] (φ := ((0 ≤ i2 ∧ i2 < ((x1.length : Nat) : Int)) ∧ (0 ≤ i2 ∧ i2 < ((x1.length : Nat) : Int)) ∧ (True ∧ True ∧ True))) (ls' := #[true, true, true, true, true, true, true, true, true, true, true, true, true, true, false, false, false, false, false, false, false, false, false, false, false, false, false, false, false, false, false, false, false, false, false, false, false, false, false, false]) (Ts' := [(0, .one (.e (.sl 0 0 x1.length))), (1, I i2), (36, B true), (41, S ((x1.getD i2.toNat dnod).name))]) (st' := ⟨[(0, .one (.e (.sl 0 0 x1.length))), (1, I i2), (36, B true), (41, S ((x1.getD i2.toNat dnod).name))], [.row .nod x1 false]⟩) (n2 := 26) (by kernel_rfl) ⟨hg60, hg60, trivial, trivial, trivial⟩ rfl ?_
            refine WD_all [14] (n := 25) (by kernel_rfl) rfl ?_
            refine WM_call [] Try.f83 rfl rfl (by kernel_rfl) Try.func83 rfl (by kernel_rfl) (spec_validName_ok n ((x1.getD i2.toNat dnod).name) b61 hc62) (trivial) rfl (And.intro rfl (trivial)) ?_
            refine WD_takeK [15, 16] [0, 1, 44] [0, 1, 44] (φ := True) (ls' := #[true, true, true, true, true, true, true, true, true, true, true, true, true, true, true, true, true, false, false, false, false, false, false, false, false, false, false, false, false, false, false, false, false, false, false, false, false, false, false, false]) (Ts' := [(0, .one (.e (.sl 0 0 x1.length))), (1, I i2), (44, B b61)]) (st' := ⟨[(0, .one (.e (.sl 0 0 x1.length))), (1, I i2), (44, B b61)], [.row .nod x1 false]⟩) (n2 := 23) (by kernel_rfl) trivial rfl ?_
            refine WD_known 44 false rfl rfl hb63 ?_
            refine WD_takeK [17, 18, 19, 20, 21, 22, 23, 24, 25, 26, 27, 28, 29, 30, 31, 32, 33, 34, 35, 36, 37, 38, 39] [4] [4] (φ := True) (ls' := #[true, true, true, true, true, true, true, true, true, true, true, true, true, true, true, true, true, true, true, true, true, true, true, true, true, true, true, true, true, true, true, true, true, true, true, true, true, true, true, true]) (Ts' := [(4, B false)]) (st' := ⟨[(4, B false)], [.row .nod x1 false]⟩) (n2 := 0) (by kernel_rfl) trivial rfl ?_
            exact WD_done [0] [4] (st' := ⟨[(4, B false)], [.row .nod x1 false]⟩) (by kernel_rfl) (by kernel_rfl) (And.intro rfl (by cases hv73; rfl))
        · refine W_draw [] false (by kernel_rfl) (by kernel_rfl) ?_
          refine WD_takeK [0, 1, 2, 3, 4, 5, 6] [0, 1, 32, 34] [0, 1, 32, 34] (φ := ((0 ≤ i2 ∧ i2 < ((x1.length : Nat) : Int)) ∧ (0 ≤ i2 ∧ i2 < ((x1.length : Nat) : Int)) ∧ (True ∧ True ∧ (True ∧ True ∧ True)))) (ls' := #[true, true, true, true, true, true, true, false, false, false, false, false, false, false, false, false, false, false, false, false, false, false, false, false, false, false, false, false, false, false, false, false, false, false, false, false, false, false, false, false]) (Ts' := [(0, .one (.e (.sl 0 0 x1.length))), (1, I i2), (32, I ((x1.getD i2.toNat dnod).parent)), (34, I (w64 (i2 - 1)))]) (st' := ⟨[(0, .one (.e (.sl 0 0 x1.length))), (1, I i2), (32, I ((x1.getD i2.toNat dnod).parent)), (34, I (w64 (i2 - 1)))], [.row .nod x1 false]⟩) (n2 := 33) (by kernel_rfl) ⟨hg58, hg58, trivial, trivial, trivial, trivial, trivial⟩ rfl ?_
          refine WD_all [7] (n := 32) (by kernel_rfl) rfl ?_
          refine WM_call [] Try.f65 rfl rfl (by kernel_rfl) Try.func65 rfl (by kernel_rfl) (spec_inRange_ok ((x1.getD i2.toNat dnod).parent) 0 (w64 (i2 - 1))) (trivial) rfl (And.intro rfl (trivial)) ?_
          refine WD_takeK [8] [0, 1, 36] [0, 1, 36] (φ := True) (ls' := #[true, true, true, true, true, true, true, true, true, false, false, false, false, false, false, false, false, false, false, false, false, false, false, false, false, false, false, false, false, false, false, false, false, false, false, false, false, false, false, false]) (Ts' := [(0, .one (.e (.sl 0 0 x1.length))), (1, I i2), (36, B (spec_inRange ((x1.getD i2.toNat dnod).parent) 0 (w64 (i2 - 1))))]) (st' := ⟨[(0, .one (.e (.sl 0 0 x1.length))), (1, I i2), (36, B (spec_inRange ((x1.getD i2.toNat dnod).parent) 0 (w64 (i2 - 1))))], [.row .nod x1 false]⟩) (n2 := 31) (by kernel_rfl) trivial rfl ?_
          refine WD_known 36 false rfl rfl hb59 ?_
          refine WD_takeK [9, 10, 11, 12, 13, 14, 15, 16, 17, 18, 19, 20, 21, 22, 23, 24, 25, 26, 27, 28, 29, 30, 31, 32, 33, 34, 35, 36, 37, 38, 39] [4] [4] (φ := True) (ls' := #[true, true, true, true, true, true, true, true, true, true, true, true, true, true, true, true, true, true, true, true, true, true, true, true, true, true, true, true, true, true, true, true, true, true, true, true, true, true, true, true]) (Ts' := [(4, B false)]) (st' := ⟨[(4, B false)], [.row .nod x1 false]⟩) (n2 := 0) (by kernel_rfl) trivial rfl ?_
          exact WD_done [0] [4] (st' := ⟨[(4, B false)], [.row .nod x1 false]⟩) (by kernel_rfl) (by kernel_rfl) (And.intro rfl (by cases hv73; rfl))
      · rintro _ _ ⟨rfl, rfl⟩
        refine thenS_n ?_
        refine W_ret ?_
        cases h
        exact ⟨[0], True, by kernel_rfl, trivial⟩

/- spec.validTree -/
def spec_validTree_L1 (x1 : List Nod) : Nat → Int → Option ((Unit) ⊕ (Unit))
| 0, _ => none
| n + 1, i52 =>
 iteO (decide (i52 < ((x1.length : Nat) : Int)))
 (bindO (spec_validNode n x1 i52) fun b71 =>
 iteO (!b71)
 (some (.inl ()))
 (spec_validTree_L1 x1 n (w64 (i52 + 1))))
 (some (.inr ()))

theorem spec_validTree_L1_ok (w : World) (X : Nat → Prop) (θ : List Loc) (x1 : List Nod) (v : (Unit) ⊕ (Unit)) : ∀ (n : Nat) (i52 : Int), spec_validTree_L1 x1 n i52 = some v → WL EE ⟨w, X, θ, 17, 1⟩ (subC [1, 0, 1, 4, 4] (bodyC Try.f37)) (fun (e : Exit) (s : St) => (match v with | (.inl _) => e = .ret ∧ s = ⟨[(2, B false)], [.row .nod x1 false]⟩ | (.inr _) => e = .exit 0 ∧ s = ⟨[(0, .one (.e (.sl 0 0 x1.length)))], [.row .nod x1 false]⟩ : Prop)) ⟨[(0, .one (.e (.sl 0 0 x1.length))), (3, I i52)], [.row .nod x1 false]⟩ := by
  intro n
  induction n with
  | zero => intro _ h; exact none_e h
  | succ n ih =>
    intro i52 h
    rw [spec_validTree_L1] at h
    refine WL_round ?_
    refine W_seq ?_
    refine W_seq ?_
    refine W_region ?_
    refine WO_step 4 [0] [0, 3, 7] (True ∧ (True ∧ True)) ⟨[(0, .one (.e (.sl 0 0 x1.length))), (3, I i52), (7, B (decide (i52 < ((x1.length : Nat) : Int))))], [.row .nod x1 false]⟩ (by kernel_rfl) ⟨trivial, trivial, trivial⟩ ?_
    refine WO_nil rfl ?_
    refine thenS_n ?_
    refine iteO_e h (fun hb66 h => W_true rfl hb66 ?_) (fun hb66 h => W_false rfl hb66 ?_)
    · refine W_sub [0] [0, 3] (st' := ⟨[(0, .one (.e (.sl 0 0 x1.length))), (3, I i52)], [.row .nod x1 false]⟩) (by kernel_rfl) ?_
      refine W_skip ?_
      refine thenS_n ?_
      refine W_seq ?_
      refine W_block ?_
      refine W_seq ?_
      refine W_region ?_
      refine WO_step 2 [0] [0, 3, 10, 11] True ⟨[(0, .one (.e (.sl 0 0 x1.length))), (3, I i52), (10, .one (.e (.sl 0 0 x1.length))), (11, I i52)], [.row .nod x1 false]⟩ (by kernel_rfl) trivial ?_
      refine bindO_e h (fun b71 hc72 h => ?_)
      refine WO_call [.ro 0] Try.f64 rfl rfl rfl (by kernel_rfl) Try.func64 rfl (by kernel_rfl) (spec_validNode_ok n x1 i52 b71 hc72) (And.intro (And.intro rfl rfl) (trivial)) rfl ?_
      refine WO_step 1 [0] [0, 3, 13] True ⟨[(0, .one (.e (.sl 0 0 x1.length))), (3, I i52), (13, B (!b71))], [.row .nod x1 false]⟩ (by kernel_rfl) trivial ?_
      refine WO_nil rfl ?_
      refine thenS_n ?_
      refine iteO_e h (fun hb74 h => W_true rfl hb74 ?_) (fun hb74 h => W_false rfl hb74 ?_)
      · refine W_seq ?_
        refine W_region ?_
        refine WO_step 1 [0] [2] True ⟨[(2, B false)], [.row .nod x1 false]⟩ (by kernel_rfl) trivial ?_
        refine WO_nil rfl ?_
        refine thenS_n ?_
        refine W_ret ?_
        refine blockS_r ?_
        refine thenS_r ?_
        refine thenS_r ?_
        cases h
        exact And.intro rfl rfl
      · refine W_sub [0] [0, 3] (st' := ⟨[(0, .one (.e (.sl 0 0 x1.length))), (3, I i52)], [.row .nod x1 false]⟩) (by kernel_rfl) ?_
        refine W_skip ?_
        refine blockS_n ?_
        refine thenS_n ?_
        refine W_region ?_
        refine WO_step 3 [0] [0, 3] (True ∧ True) ⟨[(0, .one (.e (.sl 0 0 x1.length))), (3, I (w64 (i52 + 1)))], [.row .nod x1 false]⟩ (by kernel_rfl) ⟨trivial, trivial⟩ ?_
        refine WO_nil rfl ?_
        refine thenS_n ?_
        exact ih _ h
    · refine W_sub [0] [0] (st' := ⟨[(0, .one (.e (.sl 0 0 x1.length)))], [.row .nod x1 false]⟩) (by kernel_rfl) ?_
      refine W_exit ?_
      refine thenS_e ?_
      refine thenS_e ?_
      cases h
      exact And.intro rfl rfl

def spec_validTree (n : Nat) (x1 : List Nod) : Option (Bool) :=
 bindO (spec_validTree_L1 x1 n 0) fun v75 =>
 match v75 with
 | (.inl _) => (some false)
 | (.inr _) => (some (spec_inRange ((x1.length : Nat) : Int) 1 12))


theorem spec_validTree_ok (n : Nat) (x1 : List Nod) (b38 : Bool) (h : spec_validTree n x1 = some b38) : FOk EE 37 [.one (.e (.sl 0 0 x1.length))] [.row .nod x1 false] (B b38) [.row .nod x1 false] := by
  unfold spec_validTree at h
  refine FOk_of_W 17 1 Try.func37 rfl rfl (Nat.le_of_ble_eq_true rfl) rfl (fun w X θ => ?_)
  refine W_seq ?_
  refine W_region ?_
  refine WO_step 1 [0] [0] True ⟨[(0, .one (.e (.sl 0 0 x1.length)))], [.row .nod x1 false]⟩ (by kernel_rfl) trivial ?_
  refine WO_nil rfl ?_
  refine thenS_n ?_
  refine W_seq ?_
  refine W_seq ?_
  refine W_region ?_
  refine WO_step 1 [0] [0, 3] True ⟨[(0, .one (.e (.sl 0 0 x1.length))), (3, I 0)], [.row .nod x1 false]⟩ (by kernel_rfl) trivial ?_
  refine WO_nil rfl ?_
  refine thenS_n ?_
  refine W_block ?_
  refine W_loop ?_
  refine bindO_e h (fun v75 hv75 h => ?_)
  refine WL_cut (spec_validTree_L1_ok w X θ x1 v75 n 0 hv75) ?_
  rcases v75 with _ | _
  · rintro _ _ ⟨rfl, rfl⟩
    refine blockS_r ?_
    refine thenS_r ?_
    cases h
    exact ⟨[0], True, by kernel_rfl, trivial⟩
  · rintro _ _ ⟨rfl, rfl⟩
    refine blockS_y ?_
    refine thenS_n ?_
    refine W_seq ?_
    refine W_region ?_
    refine WO_step 2 [0] [15] (True ∧ True) ⟨[(15, I ((x1.length : Nat) : Int))], [.row .nod x1 false]⟩ (by kernel_rfl) ⟨trivial, trivial⟩ ?_
    refine WO_call [] Try.f65 rfl rfl rfl (by kernel_rfl) Try.func65 rfl (by kernel_rfl) (spec_inRange_ok ((x1.length : Nat) : Int) 1 12) (trivial) rfl ?_
    refine WO_step 1 [0] [2] True ⟨[(2, B (spec_inRange ((x1.length : Nat) : Int) 1 12))], [.row .nod x1 false]⟩ (by kernel_rfl) trivial ?_
    refine WO_nil rfl ?_
    refine thenS_n ?_
    refine W_ret ?_
    cases h
    exact ⟨[0], True, by kernel_rfl, trivial⟩

/- spec.pathTo -/
def spec_pathTo_L1 (x1 : List Nod) : Nat → (List Int) → Int → Option ((List Int))
| 0, _, _ => none
| n + 1, x46, i47 =>
 iteO (decide (0 < i47))
 (guardO (0 ≤ i47 ∧ i47 < ((x1.length : Nat) : Int)) <|
 guardO (0 = 0 ∧ [(x1.getD i47.toNat dnod).parent].length = [(x1.getD i47.toNat dnod).parent].length ∧ [(x1.getD i47.toNat dnod).parent].length + ((x46.drop 0).take x46.length).length ≤ 1099511627776) <|
 spec_pathTo_L1 x1 n ([(x1.getD i47.toNat dnod).parent] ++ ((x46.drop 0).take x46.length)) ((x1.getD i47.toNat dnod).parent))
 (some x46)

theorem spec_pathTo_L1_ok (w : World) (X : Nat → Prop) (θ : List Loc) (x1 : List Nod) (x56 : (List Int)) : ∀ (n : Nat) (x46 : List Int) (i47 : Int), spec_pathTo_L1 x1 n x46 i47 = some x56 → WL EE ⟨w, X, θ, 20, 1⟩ (subC [1, 1, 0, 4, 4] (bodyC Try.f78)) (fun (e : Exit) (s : St) => e = .exit 0 ∧ s = ⟨[(5, .one (.e (.sl 1 0 x56.length)))], [.row .nod x1 false, .row .int x56 true]⟩) ⟨[(0, .one (.e (.sl 0 0 x1.length))), (1, I i47), (5, .one (.e (.sl 1 0 x46.length)))], [.row .nod x1 false, .row .int x46 true]⟩ := by
  intro n
  induction n with
  | zero => intro _ _ h; exact none_e h
  | succ n ih =>
    intro x46 i47 h
    rw [spec_pathTo_L1] at h
    refine WL_round ?_
    refine W_seq ?_
    refine W_seq ?_
    refine W_region ?_
    refine WO_step 2 [0, 1] [0, 1, 5, 9] (True ∧ True) ⟨[(0, .one (.e (.sl 0 0 x1.length))), (1, I i47), (5, .one (.e (.sl 1 0 x46.length))), (9, B (decide (0 < i47)))], [.row .nod x1 false, .row .int x46 true]⟩ (by kernel_rfl) ⟨trivial, trivial⟩ ?_
    refine WO_nil rfl ?_
    refine thenS_n ?_
    refine iteO_e h (fun hb59 h => W_true rfl hb59 ?_) (fun hb59 h => W_false rfl hb59 ?_)
    · refine W_sub [0, 1] [0, 1, 5] (st' := ⟨[(0, .one (.e (.sl 0 0 x1.length))), (1, I i47), (5, .one (.e (.sl 1 0 x46.length)))], [.row .nod x1 false, .row .int x46 true]⟩) (by kernel_rfl) ?_
      refine W_skip ?_
      refine thenS_n ?_
      refine W_block ?_
      refine W_seq ?_
      refine W_region ?_
      refine guardO_e h (fun hg62 h => ?_)
      refine WO_step 6 [0, 1] [0, 1, 5] ((0 ≤ i47 ∧ i47 < ((x1.length : Nat) : Int)) ∧ (True ∧ True)) ⟨[(0, .one (.e (.sl 0 0 x1.length))), (1, I ((x1.getD i47.toNat dnod).parent)), (5, .one (.e (.sl 1 0 x46.length)))], [.row .nod x1 false, .row .int x46 true]⟩ (by kernel_rfl) ⟨hg62, trivial, trivial⟩ ?_
      refine WO_nil rfl ?_
      refine thenS_n ?_
      refine W_region ?_
      refine guardO_e h (fun hg63 h => ?_)
      refine WO_step 5 [0, 3] [0, 1, 5] ((0 = 0 ∧ [(x1.getD i47.toNat dnod).parent].length = [(x1.getD i47.toNat dnod).parent].length ∧ [(x1.getD i47.toNat dnod).parent].length + ((x46.drop 0).take x46.length).length ≤ 1099511627776) ∧ True) ⟨[(0, .one (.e (.sl 0 0 x1.length))), (1, I ((x1.getD i47.toNat dnod).parent)), (5, .one (.e (.sl 1 0 (([(x1.getD i47.toNat dnod).parent] ++ ((x46.drop 0).take x46.length)).length))))], [.row .nod x1 false, .row .int ([(x1.getD i47.toNat dnod).parent] ++ ((x46.drop 0).take x46.length)) true]⟩ (by kernel_rfl) ⟨hg63, trivial⟩ ?_
      refine WO_nil rfl ?_
      refine blockS_n ?_
      refine thenS_n ?_
      exact ih _ _ h
    · refine W_sub [0, 1] [5] (st' := ⟨[(5, .one (.e (.sl 1 0 x46.length)))], [.row .nod x1 false, .row .int x46 true]⟩) (by kernel_rfl) ?_
      refine W_exit ?_
      refine thenS_e ?_
      refine thenS_e ?_
      cases h
      exact And.intro rfl rfl

def spec_pathTo (n : Nat) (x1 : List Nod) (i2 : Int) : Option ((List Int)) :=
 bindO (spec_pathTo_L1 x1 n [i2] i2) fun x56 =>
 some x56

theorem spec_pathTo_ok (n : Nat) (x1 : List Nod) (i2 : Int) (x33 : List Int) (h : spec_pathTo n x1 i2 = some x33) : FOk EE 78 [.one (.e (.sl 0 0 x1.length)), I i2] [.row .nod x1 false] (.one (.e (.sl 1 0 x33.length))) [.row .nod x1 false, .row .int x33 true] := by
  unfold spec_pathTo at h
  refine FOk_of_W 20 1 Try.func78 rfl rfl (Nat.le_of_ble_eq_true rfl) rfl (fun w X θ => ?_)
  refine W_seq ?_
  refine W_region ?_
  refine WO_step 1 [0] [0, 1] True ⟨[(0, .one (.e (.sl 0 0 x1.length))), (1, I i2)], [.row .nod x1 false]⟩ (by kernel_rfl) trivial ?_
  refine WO_nil rfl ?_
  refine thenS_n ?_
  refine W_seq ?_
  refine W_region ?_
  refine WO_step 3 [0, 1] [0, 1, 5] True ⟨[(0, .one (.e (.sl 0 0 x1.length))), (1, I i2), (5, .one (.e (.sl 1 0 ([i2].length))))], [.row .nod x1 false, .row .int [i2] true]⟩ (by kernel_rfl) trivial ?_
  refine WO_nil rfl ?_
  refine thenS_n ?_
  refine W_seq ?_
  refine W_block ?_
  refine W_loop ?_
  refine bindO_e h (fun x56 hx56 h => ?_)
  refine WL_cut (spec_pathTo_L1_ok w X θ x1 x56 n [i2] i2 hx56) ?_
  rintro _ _ ⟨rfl, rfl⟩
  refine blockS_y ?_
  refine thenS_n ?_
  refine W_seq ?_
  refine W_region ?_
  refine WO_step 2 [0, 1] [4] True ⟨[(4, .one (.e (.sl 1 0 x56.length)))], [.row .nod x1 false, .row .int x56 true]⟩ (by kernel_rfl) trivial ?_
  refine WO_nil rfl ?_
  refine thenS_n ?_
  refine W_ret ?_
  cases h
  exact ⟨[0, 1], True, by kernel_rfl, trivial⟩

/- spec.pathText -/
def spec_pathText_L1 (x1 : List Nod) (i2 : Int) (x48 : List Int) : Nat → Str → Int → Option (Str)
| 0, _, _ => none
| n + 1, s66, i67 =>
 iteO (decide (i67 < ((x48.length : Nat) : Int)))
 (guardO (s66.length + [47].length ≤ 1099511627776) <|
 guardO (0 ≤ i67 ∧ i67 < ((x48.length : Nat) : Int)) <|
 guardO (0 ≤ (x48.getD i67.toNat 0) ∧ (x48.getD i67.toNat 0) < ((x1.length : Nat) : Int)) <|
 guardO ((s66 ++ [47]).length + ((x1.getD ((x48.getD i67.toNat 0).toNat) dnod).name).length ≤ 1099511627776) <|
 spec_pathText_L1 x1 i2 x48 n ((s66 ++ [47]) ++ ((x1.getD ((x48.getD i67.toNat 0).toNat) dnod).name)) (w64 (i67 + 1)))
 (some s66)

theorem spec_pathText_L1_ok (w : World) (X : Nat → Prop) (θ : List Loc) (x1 : List Nod) (i2 : Int) (x48 : List Int) (s80 : Str) : ∀ (n : Nat) (s66 : Str) (i67 : Int), spec_pathText_L1 x1 i2 x48 n s66 i67 = some s80 → WL EE ⟨w, X, θ, 31, 1⟩ (subC [1, 1, 1, 0, 1, 4, 4] (bodyC Try.f56)) (fun (e : Exit) (s : St) => e = .exit 0 ∧ s = ⟨[(1, I i2), (5, S s80)], [.row .nod x1 false]⟩) ⟨[(0, .one (.e (.sl 0 0 x1.length))), (1, I i2), (5, S s66), (6, .one (.e (.sl 1 0 x48.length))), (7, I i67)], [.row .nod x1 false, .row .int x48 true]⟩ := by
  intro n
  induction n with
  | zero => intro _ _ h; exact none_e h
  | succ n ih =>
    intro s66 i67 h
    rw [spec_pathText_L1] at h
    refine WL_round ?_
    refine W_seq ?_
    refine W_seq ?_
    refine W_region ?_
    refine WO_step 4 [0, 1] [0, 1, 5, 6, 7, 14] (True ∧ (True ∧ True)) ⟨[(0, .one (.e (.sl 0 0 x1.length))), (1, I i2), (5, S s66), (6, .one (.e (.sl 1 0 x48.length))), (7, I i67), (14, B (decide (i67 < ((x48.length : Nat) : Int))))], [.row .nod x1 false, .row .int x48 true]⟩ (by kernel_rfl) ⟨trivial, trivial, trivial⟩ ?_
    refine WO_nil rfl ?_
    refine thenS_n ?_
    refine iteO_e h (fun hb83 h => W_true rfl hb83 ?_) (fun hb83 h => W_false rfl hb83 ?_)
    · refine W_sub [0, 1] [0, 1, 5, 6, 7] (st' := ⟨[(0, .one (.e (.sl 0 0 x1.length))), (1, I i2), (5, S s66), (6, .one (.e (.sl 1 0 x48.length))), (7, I i67)], [.row .nod x1 false, .row .int x48 true]⟩) (by kernel_rfl) ?_
      refine W_skip ?_
      refine thenS_n ?_
      refine W_seq ?_
      refine W_block ?_
      refine W_region ?_
      refine guardO_e h (fun hg88 h => ?_)
      refine guardO_e h (fun hg89 h => ?_)
      refine guardO_e h (fun hg90 h => ?_)
      refine guardO_e h (fun hg91 h => ?_)
      refine WO_step 12 [0, 1] [0, 1, 5, 6, 7] ((s66.length + [47].length ≤ 1099511627776) ∧ ((0 ≤ i67 ∧ i67 < ((x48.length : Nat) : Int)) ∧ (True ∧ ((0 ≤ (x48.getD i67.toNat 0) ∧ (x48.getD i67.toNat 0) < ((x1.length : Nat) : Int)) ∧ (True ∧ (((s66 ++ [47]).length + ((x1.getD ((x48.getD i67.toNat 0).toNat) dnod).name).length ≤ 1099511627776) ∧ True)))))) ⟨[(0, .one (.e (.sl 0 0 x1.length))), (1, I i2), (5, S ((s66 ++ [47]) ++ ((x1.getD ((x48.getD i67.toNat 0).toNat) dnod).name))), (6, .one (.e (.sl 1 0 x48.length))), (7, I i67)], [.row .nod x1 false, .row .int x48 true]⟩ (by kernel_rfl) ⟨hg88, hg89, trivial, hg90, trivial, hg91, trivial⟩ ?_
      refine WO_nil rfl ?_
      refine blockS_n ?_
      refine thenS_n ?_
      refine W_region ?_
      refine WO_step 3 [0, 1] [0, 1, 5, 6, 7] (True ∧ True) ⟨[(0, .one (.e (.sl 0 0 x1.length))), (1, I i2), (5, S ((s66 ++ [47]) ++ ((x1.getD ((x48.getD i67.toNat 0).toNat) dnod).name))), (6, .one (.e (.sl 1 0 x48.length))), (7, I (w64 (i67 + 1)))], [.row .nod x1 false, .row .int x48 true]⟩ (by kernel_rfl) ⟨trivial, trivial⟩ ?_
      refine WO_nil rfl ?_
      refine thenS_n ?_
      exact ih _ _ h
    · refine W_sub [0] [1, 5] (st' := ⟨[(1, I i2), (5, S s66)], [.row .nod x1 false]⟩) (by kernel_rfl) ?_
      refine W_exit ?_
      refine thenS_e ?_
      refine thenS_e ?_
      cases h
      exact And.intro rfl rfl

def spec_pathText (n : Nat) (x1 : List Nod) (i2 : Int) : Option (Str) :=
 bindO (spec_pathTo n x1 i2) fun x48 =>
 bindO (spec_pathText_L1 x1 i2 x48 n [] 1) fun s80 =>
 iteO (decide (i2 = 0))
 (some [47])
 (some s80)

theorem spec_pathText_ok (n : Nat) (x1 : List Nod) (i2 : Int) (s47 : Str) (h : spec_pathText n x1 i2 = some s47) : FOk EE 56 [.one (.e (.sl 0 0 x1.length)), I i2] [.row .nod x1 false] (S s47) [.row .nod x1 false] := by
  unfold spec_pathText at h
  refine FOk_of_W 31 1 Try.func56 rfl rfl (Nat.le_of_ble_eq_true rfl) rfl (fun w X θ => ?_)
  refine W_seq ?_
  refine W_region ?_
  refine WO_step 1 [0] [0, 1] True ⟨[(0, .one (.e (.sl 0 0 x1.length))), (1, I i2)], [.row .nod x1 false]⟩ (by kernel_rfl) trivial ?_
  refine WO_nil rfl ?_
  refine thenS_n ?_
  refine W_seq ?_
  refine W_region ?_
  refine WO_step 1 [0] [0, 1, 5] True ⟨[(0, .one (.e (.sl 0 0 x1.length))), (1, I i2), (5, S [])], [.row .nod x1 false]⟩ (by kernel_rfl) trivial ?_
  refine WO_nil rfl ?_
  refine thenS_n ?_
  refine W_seq ?_
  refine W_region ?_
  refine WO_step 2 [0] [0, 1, 5, 8, 9] True ⟨[(0, .one (.e (.sl 0 0 x1.length))), (1, I i2), (5, S []), (8, .one (.e (.sl 0 0 x1.length))), (9, I i2)], [.row .nod x1 false]⟩ (by kernel_rfl) trivial ?_
  refine bindO_e h (fun x48 hc49 h => ?_)
  refine WO_call [.ro 0] Try.f78 rfl rfl rfl (by kernel_rfl) Try.func78 rfl (by kernel_rfl) (spec_pathTo_ok n x1 i2 x48 hc49) (And.intro (And.intro rfl rfl) (trivial)) rfl ?_
  refine WO_step 1 [0, 1] [0, 1, 5, 6] True ⟨[(0, .one (.e (.sl 0 0 x1.length))), (1, I i2), (5, S []), (6, .one (.e (.sl 1 0 x48.length)))], [.row .nod x1 false, .row .int x48 true]⟩ (by kernel_rfl) trivial ?_
  refine WO_nil rfl ?_
  refine thenS_n ?_
  refine W_seq ?_
  refine W_seq ?_
  refine W_region ?_
  refine WO_step 1 [0, 1] [0, 1, 5, 6, 7] True ⟨[(0, .one (.e (.sl 0 0 x1.length))), (1, I i2), (5, S []), (6, .one (.e (.sl 1 0 x48.length))), (7, I 1)], [.row .nod x1 false, .row .int x48 true]⟩ (by kernel_rfl) trivial ?_
  refine WO_nil rfl ?_
  refine thenS_n ?_
  refine W_block ?_
  refine W_loop ?_
  refine bindO_e h (fun s80 hs80 h => ?_)
  refine WL_cut (spec_pathText_L1_ok w X θ x1 i2 x48 s80 n [] 1 hs80) ?_
  rintro _ _ ⟨rfl, rfl⟩
  refine blockS_y ?_
  refine thenS_n ?_
  refine W_seq ?_
  refine W_seq ?_
  refine W_region ?_
  refine WO_step 2 [0] [5, 29] (True ∧ True) ⟨[(5, S s80), (29, B (decide (i2 = 0)))], [.row .nod x1 false]⟩ (by kernel_rfl) ⟨trivial, trivial⟩ ?_
  refine WO_nil rfl ?_
  refine thenS_n ?_
  refine iteO_e h (fun hb94 h => W_true rfl hb94 ?_) (fun hb94 h => W_false rfl hb94 ?_)
  · refine W_seq ?_
    refine W_region ?_
    refine WO_step 1 [0] [4] True ⟨[(4, S [47])], [.row .nod x1 false]⟩ (by kernel_rfl) trivial ?_
    refine WO_nil rfl ?_
    refine thenS_n ?_
    refine W_ret ?_
    refine thenS_r ?_
    cases h
    exact ⟨[0], True, by kernel_rfl, trivial⟩
  · refine W_sub [0] [5] (st' := ⟨[(5, S s80)], [.row .nod x1 false]⟩) (by kernel_rfl) ?_
    refine W_skip ?_
    refine thenS_n ?_
    refine W_seq ?_
    refine W_region ?_
    refine WO_step 2 [0] [4] True ⟨[(4, S s80)], [.row .nod x1 false]⟩ (by kernel_rfl) trivial ?_
    refine WO_nil rfl ?_
    refine thenS_n ?_
    refine W_ret ?_
    cases h
    exact ⟨[0], True, by kernel_rfl, trivial⟩

/- spec.resolve -/
def spec_resolve_L1 (x1 : List Nod) (s2 : Str) : Nat → Int → Option ((Int) ⊕ (Unit))
| 0, _ => none
| n + 1, i56 =>
 iteO (decide (i56 < ((x1.length : Nat) : Int)))
 (bindO (spec_pathText n x1 i56) fun s76 =>
 iteO (decide (s76 = s2))
 (some (.inl i56))
 (spec_resolve_L1 x1 s2 n (w64 (i56 + 1))))
 (some (.inr ()))

theorem spec_resolve_L1_ok (w : World) (X : Nat → Prop) (θ : List Loc) (x1 : List Nod) (s2 : Str) (v : (Int) ⊕ (Unit)) : ∀ (n : Nat) (i56 : Int), spec_resolve_L1 x1 s2 n i56 = some v → WL EE ⟨w, X, θ, 18, 1⟩ (subC [1, 0, 1, 4, 4] (bodyC Try.f55)) (fun (e : Exit) (s : St) => (match v with | (.inl i68) => e = .ret ∧ s = ⟨[(4, I i68)], [.row .nod x1 false]⟩ | (.inr _) => e = .exit 0 ∧ s = ⟨[], [.row .nod x1 false]⟩ : Prop)) ⟨[(0, .one (.e (.sl 0 0 x1.length))), (1, S s2), (5, I i56)], [.row .nod x1 false]⟩ := by
  intro n
  induction n with
  | zero => intro _ h; exact none_e h
  | succ n ih =>
    intro i56 h
    rw [spec_resolve_L1] at h
    refine WL_round ?_
    refine W_seq ?_
    refine W_seq ?_
    refine W_region ?_
    refine WO_step 4 [0] [0, 1, 5, 9] (True ∧ (True ∧ True)) ⟨[(0, .one (.e (.sl 0 0 x1.length))), (1, S s2), (5, I i56), (9, B (decide (i56 < ((x1.length : Nat) : Int))))], [.row .nod x1 false]⟩ (by kernel_rfl) ⟨trivial, trivial, trivial⟩ ?_
    refine WO_nil rfl ?_
    refine thenS_n ?_
    refine iteO_e h (fun hb71 h => W_true rfl hb71 ?_) (fun hb71 h => W_false rfl hb71 ?_)
    · refine W_sub [0] [0, 1, 5] (st' := ⟨[(0, .one (.e (.sl 0 0 x1.length))), (1, S s2), (5, I i56)], [.row .nod x1 false]⟩) (by kernel_rfl) ?_
      refine W_skip ?_
      refine thenS_n ?_
      refine W_seq ?_
      refine W_block ?_
      refine W_seq ?_
      refine W_region ?_
      refine WO_step 2 [0] [0, 1, 5, 12, 13] True ⟨[(0, .one (.e (.sl 0 0 x1.length))), (1, S s2), (5, I i56), (12, .one (.e (.sl 0 0 x1.length))), (13, I i56)], [.row .nod x1 false]⟩ (by kernel_rfl) trivial ?_
      refine bindO_e h (fun s76 hc77 h => ?_)
      refine WO_call [.ro 0] Try.f56 rfl rfl rfl (by kernel_rfl) Try.func56 rfl (by kernel_rfl) (spec_pathText_ok n x1 i56 s76 hc77) (And.intro (And.intro rfl rfl) (trivial)) rfl ?_
      refine WO_step 2 [0] [0, 1, 5, 16] (True ∧ True) ⟨[(0, .one (.e (.sl 0 0 x1.length))), (1, S s2), (5, I i56), (16, B (decide (s76 = s2)))], [.row .nod x1 false]⟩ (by kernel_rfl) ⟨trivial, trivial⟩ ?_
      refine WO_nil rfl ?_
      refine thenS_n ?_
      refine iteO_e h (fun hb79 h => W_true rfl hb79 ?_) (fun hb79 h => W_false rfl hb79 ?_)
      · refine W_seq ?_
        refine W_region ?_
        refine WO_step 2 [0] [4] True ⟨[(4, I i56)], [.row .nod x1 false]⟩ (by kernel_rfl) trivial ?_
        refine WO_nil rfl ?_
        refine thenS_n ?_
        refine W_ret ?_
        refine blockS_r ?_
        refine thenS_r ?_
        refine thenS_r ?_
        cases h
        exact And.intro rfl rfl
      · refine W_sub [0] [0, 1, 5] (st' := ⟨[(0, .one (.e (.sl 0 0 x1.length))), (1, S s2), (5, I i56)], [.row .nod x1 false]⟩) (by kernel_rfl) ?_
        refine W_skip ?_
        refine blockS_n ?_
        refine thenS_n ?_
        refine W_region ?_
        refine WO_step 3 [0] [0, 1, 5] (True ∧ True) ⟨[(0, .one (.e (.sl 0 0 x1.length))), (1, S s2), (5, I (w64 (i56 + 1)))], [.row .nod x1 false]⟩ (by kernel_rfl) ⟨trivial, trivial⟩ ?_
        refine WO_nil rfl ?_
        refine thenS_n ?_
        exact ih _ h
    · refine W_sub [0] [] (st' := ⟨[], [.row .nod x1 false]⟩) (by kernel_rfl) ?_
      refine W_exit ?_
      refine thenS_e ?_
      refine thenS_e ?_
      cases h
      exact And.intro rfl rfl

def spec_resolve (n : Nat) (x1 : List Nod) (s2 : Str) : Option (Int) :=
 bindO (spec_resolve_L1 x1 s2 n 0) fun v80 =>
 match v80 with
 | (.inl i68) => (some i68)
 | (.inr _) => (some (-1))


theorem spec_resolve_ok (n : Nat) (x1 : List Nod) (s2 : Str) (i41 : Int) (h : spec_resolve n x1 s2 = some i41) : FOk EE 55 [.one (.e (.sl 0 0 x1.length)), S s2] [.row .nod x1 false] (I i41) [.row .nod x1 false] := by
  unfold spec_resolve at h
  refine FOk_of_W 18 1 Try.func55 rfl rfl (Nat.le_of_ble_eq_true rfl) rfl (fun w X θ => ?_)
  refine W_seq ?_
  refine W_region ?_
  refine WO_step 1 [0] [0, 1] True ⟨[(0, .one (.e (.sl 0 0 x1.length))), (1, S s2)], [.row .nod x1 false]⟩ (by kernel_rfl) trivial ?_
  refine WO_nil rfl ?_
  refine thenS_n ?_
  refine W_seq ?_
  refine W_seq ?_
  refine W_region ?_
  refine WO_step 1 [0] [0, 1, 5] True ⟨[(0, .one (.e (.sl 0 0 x1.length))), (1, S s2), (5, I 0)], [.row .nod x1 false]⟩ (by kernel_rfl) trivial ?_
  refine WO_nil rfl ?_
  refine thenS_n ?_
  refine W_block ?_
  refine W_loop ?_
  refine bindO_e h (fun v80 hv80 h => ?_)
  refine WL_cut (spec_resolve_L1_ok w X θ x1 s2 v80 n 0 hv80) ?_
  rcases v80 with i68 | _
  · rintro _ _ ⟨rfl, rfl⟩
    refine blockS_r ?_
    refine thenS_r ?_
    cases h
    exact ⟨[0], True, by kernel_rfl, trivial⟩
  · rintro _ _ ⟨rfl, rfl⟩
    refine blockS_y ?_
    refine thenS_n ?_
    refine W_seq ?_
    refine W_region ?_
    refine WO_step 1 [0] [4] True ⟨[(4, I (-1))], [.row .nod x1 false]⟩ (by kernel_rfl) trivial ?_
    refine WO_nil rfl ?_
    refine thenS_n ?_
    refine W_ret ?_
    cases h
    exact ⟨[0], True, by kernel_rfl, trivial⟩

/- spec.above -/
def spec_above_L1 (x1 : List Nod) (i2 : Int) : Nat → Int → Option (Int)
| 0, _ => none
| n + 1, i33 =>
 iteO (decide (i2 < i33))
 (guardO (0 ≤ i33 ∧ i33 < ((x1.length : Nat) : Int)) <|
 spec_above_L1 x1 i2 n ((x1.getD i33.toNat dnod).parent))
 (some i33)

theorem spec_above_L1_ok (w : World) (X : Nat → Prop) (θ : List Loc) (x1 : List Nod) (i2 : Int) (i39 : Int) : ∀ (n : Nat) (i33 : Int), spec_above_L1 x1 i2 n i33 = some i39 → WL EE ⟨w, X, θ, 18, 1⟩ (subC [1, 0, 4, 4] (bodyC Try.f95)) (fun (e : Exit) (s : St) => e = .exit 0 ∧ s = ⟨[(1, I i2), (2, I i39)], [.row .nod x1 false]⟩) ⟨[(0, .one (.e (.sl 0 0 x1.length))), (1, I i2), (2, I i33)], [.row .nod x1 false]⟩ := by
  intro n
  induction n with
  | zero => intro _ h; exact none_e h
  | succ n ih =>
    intro i33 h
    rw [spec_above_L1] at h
    refine WL_round ?_
    refine W_seq ?_
    refine W_seq ?_
    refine W_region ?_
    refine WO_step 3 [0] [0, 1, 2, 9] (True ∧ True) ⟨[(0, .one (.e (.sl 0 0 x1.length))), (1, I i2), (2, I i33), (9, B (decide (i2 < i33)))], [.row .nod x1 false]⟩ (by kernel_rfl) ⟨trivial, trivial⟩ ?_
    refine WO_nil rfl ?_
    refine thenS_n ?_
    refine iteO_e h (fun hb42 h => W_true rfl hb42 ?_) (fun hb42 h => W_false rfl hb42 ?_)
    · refine W_sub [0] [0, 1, 2] (st' := ⟨[(0, .one (.e (.sl 0 0 x1.length))), (1, I i2), (2, I i33)], [.row .nod x1 false]⟩) (by kernel_rfl) ?_
      refine W_skip ?_
      refine thenS_n ?_
      refine W_block ?_
      refine W_region ?_
      refine guardO_e h (fun hg44 h => ?_)
      refine WO_step 6 [0] [0, 1, 2] ((0 ≤ i33 ∧ i33 < ((x1.length : Nat) : Int)) ∧ (True ∧ True)) ⟨[(0, .one (.e (.sl 0 0 x1.length))), (1, I i2), (2, I ((x1.getD i33.toNat dnod).parent))], [.row .nod x1 false]⟩ (by kernel_rfl) ⟨hg44, trivial, trivial⟩ ?_
      refine WO_nil rfl ?_
      refine blockS_n ?_
      refine thenS_n ?_
      exact ih _ h
    · refine W_sub [0] [1, 2] (st' := ⟨[(1, I i2), (2, I i33)], [.row .nod x1 false]⟩) (by kernel_rfl) ?_
      refine W_exit ?_
      refine thenS_e ?_
      refine thenS_e ?_
      cases h
      exact And.intro rfl rfl

def spec_above (n : Nat) (x1 : List Nod) (i2 : Int) (i3 : Int) : Option (Bool) :=
 bindO (spec_above_L1 x1 i2 n i3) fun i39 =>
 some (decide (i39 = i2))

theorem spec_above_ok (n : Nat) (x1 : List Nod) (i2 : Int) (i3 : Int) (b24 : Bool) (h : spec_above n x1 i2 i3 = some b24) : FOk EE 95 [.one (.e (.sl 0 0 x1.length)), I i2, I i3] [.row .nod x1 false] (B b24) [.row .nod x1 false] := by
  unfold spec_above at h
  refine FOk_of_W 18 1 Try.func95 rfl rfl (Nat.le_of_ble_eq_true rfl) rfl (fun w X θ => ?_)
  refine W_seq ?_
  refine W_region ?_
  refine WO_step 1 [0] [0, 1, 2] True ⟨[(0, .one (.e (.sl 0 0 x1.length))), (1, I i2), (2, I i3)], [.row .nod x1 false]⟩ (by kernel_rfl) trivial ?_
  refine WO_nil rfl ?_
  refine thenS_n ?_
  refine W_seq ?_
  refine W_block ?_
  refine W_loop ?_
  refine bindO_e h (fun i39 hi39 h => ?_)
  refine WL_cut (spec_above_L1_ok w X θ x1 i2 i39 n i3 hi39) ?_
  rintro _ _ ⟨rfl, rfl⟩
  refine blockS_y ?_
  refine thenS_n ?_
  refine W_seq ?_
  refine W_region ?_
  refine WO_step 4 [0] [6] (True ∧ True) ⟨[(6, B (decide (i39 = i2)))], [.row .nod x1 false]⟩ (by kernel_rfl) ⟨trivial, trivial⟩ ?_
  refine WO_nil rfl ?_
  refine thenS_n ?_
  refine W_ret ?_
  cases h
  exact ⟨[0], True, by kernel_rfl, trivial⟩

/- spec.without -/
def spec_without_L1 (x1 : List Nod) (i2 : Int) : Nat → (List Nod) → (List Int) → Int → Option ((List Nod))
| 0, _, _, _ => none
| n + 1, x94, x95, i96 =>
 iteO (decide (i96 < ((x1.length : Nat) : Int)))
 (bindO (bindO (spec_above n x1 i2 i96) fun b134 =>
 iteO b134
 (some (x94, x95))
 (guardO (0 ≤ i96 ∧ i96 < ((x1.length : Nat) : Int)) <|
 bindO (iteO (decide (0 < i96))
 (guardO (0 ≤ (x1.getD i96.toNat dnod).parent ∧ (x1.getD i96.toNat dnod).parent < ((x95.length : Nat) : Int)) <|
 some (x95.getD (((x1.getD i96.toNat dnod).parent).toNat) 0))
 (some ((x1.getD i96.toNat dnod).parent))) fun i141 =>
 guardO (0 ≤ i96 ∧ i96 < ((x95.length : Nat) : Int)) <|
 guardO (0 = 0 ∧ x94.length = x94.length ∧ x94.length + (([(⟨i141, (x1.getD i96.toNat dnod).name, (x1.getD i96.toNat dnod).value⟩ : Nod)].drop 0).take ([(⟨i141, (x1.getD i96.toNat dnod).name, (x1.getD i96.toNat dnod).value⟩ : Nod)].length)).length ≤ 1099511627776) <|
 some ((x94 ++ (([(⟨i141, (x1.getD i96.toNat dnod).name, (x1.getD i96.toNat dnod).value⟩ : Nod)].drop 0).take ([(⟨i141, (x1.getD i96.toNat dnod).name, (x1.getD i96.toNat dnod).value⟩ : Nod)].length))), (x95.set i96.toNat ((x94.length : Nat) : Int))))) fun v133 =>
 match v133 with
 | (x131, x132) => (spec_without_L1 x1 i2 n x131 x132 (w64 (i96 + 1)))
)
 (some x94)

theorem spec_without_L1_ok (w : World) (X : Nat → Prop) (θ : List Loc) (x1 : List Nod) (i2 : Int) (x116 : (List Nod)) : ∀ (n : Nat) (x94 : List Nod) (x95 : List Int) (i96 : Int), spec_without_L1 x1 i2 n x94 x95 i96 = some x116 → WL EE ⟨w, X, θ, 45, 1⟩ (subC [1, 1, 1, 0, 1, 4, 4] (bodyC Try.f86)) (fun (e : Exit) (s : St) => e = .exit 0 ∧ s = ⟨[(5, .one (.e (.sl 1 0 x116.length)))], [.row .nod x1 false, .row .nod x116 true]⟩) ⟨[(0, .one (.e (.sl 0 0 x1.length))), (1, I i2), (5, .one (.e (.sl 1 0 x94.length))), (6, .one (.e (.sl 2 0 x95.length))), (7, I i96)], [.row .nod x1 false, .row .nod x94 true, .row .int x95 true]⟩ := by
  intro n
  induction n with
  | zero => intro _ _ _ h; exact none_e h
  | succ n ih =>
    intro x94 x95 i96 h
    rw [spec_without_L1] at h
    refine WL_round ?_
    refine W_seq ?_
    refine W_seq ?_
    refine W_region ?_
    refine WO_step 4 [0, 1, 2] [0, 1, 5, 6, 7, 16] (True ∧ (True ∧ True)) ⟨[(0, .one (.e (.sl 0 0 x1.length))), (1, I i2), (5, .one (.e (.sl 1 0 x94.length))), (6, .one (.e (.sl 2 0 x95.length))), (7, I i96), (16, B (decide (i96 < ((x1.length : Nat) : Int))))], [.row .nod x1 false, .row .nod x94 true, .row .int x95 true]⟩ (by kernel_rfl) ⟨trivial, trivial, trivial⟩ ?_
    refine WO_nil rfl ?_
    refine thenS_n ?_
    refine iteO_e h (fun hb119 h => W_true rfl hb119 ?_) (fun hb119 h => W_false rfl hb119 ?_)
    · refine W_sub [0, 1, 2] [0, 1, 5, 6, 7] (st' := ⟨[(0, .one (.e (.sl 0 0 x1.length))), (1, I i2), (5, .one (.e (.sl 1 0 x94.length))), (6, .one (.e (.sl 2 0 x95.length))), (7, I i96)], [.row .nod x1 false, .row .nod x94 true, .row .int x95 true]⟩) (by kernel_rfl) ?_
      refine W_skip ?_
      refine thenS_n ?_
      refine W_seq ?_
      refine bindO_e h (fun v133 hv133 h => ?_)
      refine W_cut (Q' := fun (e : Exit) (s : St) => (match v133 with | (x131, x132) => e = .normal ∧ s = ⟨[(0, .one (.e (.sl 0 0 x1.length))), (1, I i2), (5, .one (.e (.sl 1 0 x131.length))), (6, .one (.e (.sl 2 0 x132.length))), (7, I i96)], [.row .nod x1 false, .row .nod x131 true, .row .int x132 true]⟩ : Prop)) ?_ ?_
      · refine W_block ?_
        refine W_seq ?_
        refine W_seq ?_
        refine W_region ?_
        refine WO_step 3 [0, 1, 2] [0, 1, 5, 6, 7, 19, 20, 21] True ⟨[(0, .one (.e (.sl 0 0 x1.length))), (1, I i2), (5, .one (.e (.sl 1 0 x94.length))), (6, .one (.e (.sl 2 0 x95.length))), (7, I i96), (19, .one (.e (.sl 0 0 x1.length))), (20, I i2), (21, I i96)], [.row .nod x1 false, .row .nod x94 true, .row .int x95 true]⟩ (by kernel_rfl) trivial ?_
        refine bindO_e hv133 (fun b134 hc135 hv133 => ?_)
        refine WO_call [.ro 0] Try.f95 rfl rfl rfl (by kernel_rfl) Try.func95 rfl (by kernel_rfl) (spec_above_ok n x1 i2 i96 b134 hc135) (And.intro (And.intro rfl rfl) (trivial)) rfl ?_
        refine WO_sub [0, 1, 2] [0, 1, 5, 6, 7, 22] (st' := ⟨[(0, .one (.e (.sl 0 0 x1.length))), (1, I i2), (5, .one (.e (.sl 1 0 x94.length))), (6, .one (.e (.sl 2 0 x95.length))), (7, I i96), (22, B b134)], [.row .nod x1 false, .row .nod x94 true, .row .int x95 true]⟩) (by kernel_rfl) ?_
        refine WO_nil rfl ?_
        refine thenS_n ?_
        refine iteO_e hv133 (fun hb137 hv133 => W_true rfl hb137 ?_) (fun hb137 hv133 => W_false rfl hb137 ?_)
        · refine W_sub [0, 1, 2] [0, 1, 5, 6, 7] (st' := ⟨[(0, .one (.e (.sl 0 0 x1.length))), (1, I i2), (5, .one (.e (.sl 1 0 x94.length))), (6, .one (.e (.sl 2 0 x95.length))), (7, I i96)], [.row .nod x1 false, .row .nod x94 true, .row .int x95 true]⟩) (by kernel_rfl) ?_
          refine W_exit ?_
          refine thenS_e ?_
          refine blockS_y ?_
          cases hv133
          exact And.intro rfl rfl
        · refine W_sub [0, 1, 2] [0, 1, 5, 6, 7] (st' := ⟨[(0, .one (.e (.sl 0 0 x1.length))), (1, I i2), (5, .one (.e (.sl 1 0 x94.length))), (6, .one (.e (.sl 2 0 x95.length))), (7, I i96)], [.row .nod x1 false, .row .nod x94 true, .row .int x95 true]⟩) (by kernel_rfl) ?_
          refine W_skip ?_
          refine thenS_n ?_
          refine W_seq ?_
          refine W_region ?_
          refine guardO_e hv133 (fun hg138 hv133 => ?_)
          refine WO_step 6 [0, 1, 2, 3] [0, 1, 5, 6, 7, 8] ((0 ≤ i96 ∧ i96 < ((x1.length : Nat) : Int)) ∧ (True ∧ (True ∧ (True ∧ True)))) ⟨[(0, .one (.e (.sl 0 0 x1.length))), (1, I i2), (5, .one (.e (.sl 1 0 x94.length))), (6, .one (.e (.sl 2 0 x95.length))), (7, I i96), (8, .one (.e (.p 3 0)))], [.row .nod x1 false, .row .nod x94 true, .row .int x95 true, .cells [cI ((x1.getD i96.toNat dnod).parent), cS ((x1.getD i96.toNat dnod).name), cI ((x1.getD i96.toNat dnod).value)]]⟩ (by kernel_rfl) ⟨hg138, trivial, trivial, trivial, trivial⟩ ?_
          refine WO_nil rfl ?_
          refine thenS_n ?_
          refine W_seq ?_
          refine W_seq ?_
          refine W_region ?_
          refine WO_step 2 [0, 1, 2, 3] [0, 1, 5, 6, 7, 8, 28] (True ∧ True) ⟨[(0, .one (.e (.sl 0 0 x1.length))), (1, I i2), (5, .one (.e (.sl 1 0 x94.length))), (6, .one (.e (.sl 2 0 x95.length))), (7, I i96), (8, .one (.e (.p 3 0))), (28, B (decide (0 < i96)))], [.row .nod x1 false, .row .nod x94 true, .row .int x95 true, .cells [cI ((x1.getD i96.toNat dnod).parent), cS ((x1.getD i96.toNat dnod).name), cI ((x1.getD i96.toNat dnod).value)]]⟩ (by kernel_rfl) ⟨trivial, trivial⟩ ?_
          refine WO_nil rfl ?_
          refine thenS_n ?_
          refine bindO_e hv133 (fun i141 hi141 hv133 => ?_)
          refine W_cut (Q' := fun (e : Exit) (s : St) => e = .normal ∧ s = ⟨[(0, .one (.e (.sl 0 0 x1.length))), (1, I i2), (5, .one (.e (.sl 1 0 x94.length))), (6, .one (.e (.sl 2 0 x95.length))), (7, I i96), (8, .one (.e (.p 3 0)))], [.row .nod x1 false, .row .nod x94 true, .row .int x95 true, .cells [cI i141, cS ((x1.getD i96.toNat dnod).name), cI ((x1.getD i96.toNat dnod).value)]]⟩) ?_ ?_
          · refine iteO_e hi141 (fun hb143 hi141 => W_true rfl hb143 ?_) (fun hb143 hi141 => W_false rfl hb143 ?_)
            · refine W_region ?_
              refine guardO_e hi141 (fun hg144 hi141 => ?_)
              refine WO_step 7 [0, 1, 2, 3] [0, 1, 5, 6, 7, 8] (True ∧ ((0 ≤ (x1.getD i96.toNat dnod).parent ∧ (x1.getD i96.toNat dnod).parent < ((x95.length : Nat) : Int)) ∧ (True ∧ (True ∧ True)))) ⟨[(0, .one (.e (.sl 0 0 x1.length))), (1, I i2), (5, .one (.e (.sl 1 0 x94.length))), (6, .one (.e (.sl 2 0 x95.length))), (7, I i96), (8, .one (.e (.p 3 0)))], [.row .nod x1 false, .row .nod x94 true, .row .int x95 true, .cells [cI (x95.getD (((x1.getD i96.toNat dnod).parent).toNat) 0), cS ((x1.getD i96.toNat dnod).name), cI ((x1.getD i96.toNat dnod).value)]]⟩ (by kernel_rfl) ⟨trivial, hg144, trivial, trivial, trivial⟩ ?_
              refine WO_nil rfl ?_
              cases hi141
              exact And.intro rfl rfl
            · refine W_sub [0, 1, 2, 3] [0, 1, 5, 6, 7, 8] (st' := ⟨[(0, .one (.e (.sl 0 0 x1.length))), (1, I i2), (5, .one (.e (.sl 1 0 x94.length))), (6, .one (.e (.sl 2 0 x95.length))), (7, I i96), (8, .one (.e (.p 3 0)))], [.row .nod x1 false, .row .nod x94 true, .row .int x95 true, .cells [cI ((x1.getD i96.toNat dnod).parent), cS ((x1.getD i96.toNat dnod).name), cI ((x1.getD i96.toNat dnod).value)]]⟩) (by kernel_rfl) ?_
              refine W_skip ?_
              cases hi141
              exact And.intro rfl rfl
          · rintro _ _ ⟨rfl, rfl⟩
            refine thenS_n ?_
            refine W_seq ?_
            refine W_region ?_
            refine guardO_e hv133 (fun hg145 hv133 => ?_)
            refine WO_step 6 [0, 1, 2, 3] [0, 1, 5, 6, 7, 8] (True ∧ ((0 ≤ i96 ∧ i96 < ((x95.length : Nat) : Int)) ∧ (True ∧ True))) ⟨[(0, .one (.e (.sl 0 0 x1.length))), (1, I i2), (5, .one (.e (.sl 1 0 x94.length))), (6, .one (.e (.sl 2 0 x95.length))), (7, I i96), (8, .one (.e (.p 3 0)))], [.row .nod x1 false, .row .nod x94 true, .row .int (x95.set i96.toNat ((x94.length : Nat) : Int)) true, .cells [cI i141, cS ((x1.getD i96.toNat dnod).name), cI ((x1.getD i96.toNat dnod).value)]]⟩ (by kernel_rfl) ⟨trivial, hg145, trivial, trivial⟩ ?_
            refine WO_eq (st' := ⟨[(0, .one (.e (.sl 0 0 x1.length))), (1, I i2), (5, .one (.e (.sl 1 0 x94.length))), (6, .one (.e (.sl 2 0 ((x95.set i96.toNat ((x94.length : Nat) : Int)).length)))), (7, I i96), (8, .one (.e (.p 3 0)))], [.row .nod x1 false, .row .nod x94 true, .row .int (x95.set i96.toNat ((x94.length : Nat) : Int)) true, .cells [cI i141, cS ((x1.getD i96.toNat dnod).name), cI ((x1.getD i96.toNat dnod).value)]]⟩) (by simp only [List.length_set]) ?_
            refine WO_nil rfl ?_
            refine thenS_n ?_
            refine W_region ?_
            refine guardO_e hv133 (fun hg146 hv133 => ?_)
            refine WO_step 5 [0, 5, 2] [0, 1, 5, 6, 7] (True ∧ ((0 = 0 ∧ x94.length = x94.length ∧ x94.length + (([(⟨i141, (x1.getD i96.toNat dnod).name, (x1.getD i96.toNat dnod).value⟩ : Nod)].drop 0).take ([(⟨i141, (x1.getD i96.toNat dnod).name, (x1.getD i96.toNat dnod).value⟩ : Nod)].length)).length ≤ 1099511627776) ∧ True)) ⟨[(0, .one (.e (.sl 0 0 x1.length))), (1, I i2), (5, .one (.e (.sl 1 0 ((x94 ++ (([(⟨i141, (x1.getD i96.toNat dnod).name, (x1.getD i96.toNat dnod).value⟩ : Nod)].drop 0).take ([(⟨i141, (x1.getD i96.toNat dnod).name, (x1.getD i96.toNat dnod).value⟩ : Nod)].length))).length)))), (6, .one (.e (.sl 2 0 ((x95.set i96.toNat ((x94.length : Nat) : Int)).length)))), (7, I i96)], [.row .nod x1 false, .row .nod (x94 ++ (([(⟨i141, (x1.getD i96.toNat dnod).name, (x1.getD i96.toNat dnod).value⟩ : Nod)].drop 0).take ([(⟨i141, (x1.getD i96.toNat dnod).name, (x1.getD i96.toNat dnod).value⟩ : Nod)].length))) true, .row .int (x95.set i96.toNat ((x94.length : Nat) : Int)) true]⟩ (by kernel_rfl) ⟨trivial, hg146, trivial⟩ ?_
            refine WO_nil rfl ?_
            refine blockS_n ?_
            cases hv133
            exact And.intro rfl rfl
      · obtain ⟨x131, x132⟩ := v133
        rintro _ _ ⟨rfl, rfl⟩
        refine thenS_n ?_
        refine W_region ?_
        refine WO_step 3 [0, 1, 2] [0, 1, 5, 6, 7] (True ∧ True) ⟨[(0, .one (.e (.sl 0 0 x1.length))), (1, I i2), (5, .one (.e (.sl 1 0 x131.length))), (6, .one (.e (.sl 2 0 x132.length))), (7, I (w64 (i96 + 1)))], [.row .nod x1 false, .row .nod x131 true, .row .int x132 true]⟩ (by kernel_rfl) ⟨trivial, trivial⟩ ?_
        refine WO_nil rfl ?_
        refine thenS_n ?_
        exact ih _ _ _ h
    · refine W_sub [0, 1] [5] (st' := ⟨[(5, .one (.e (.sl 1 0 x94.length)))], [.row .nod x1 false, .row .nod x94 true]⟩) (by kernel_rfl) ?_
      refine W_exit ?_
      refine thenS_e ?_
      refine thenS_e ?_
      cases h
      exact And.intro rfl rfl

def spec_without (n : Nat) (x1 : List Nod) (i2 : Int) : Option ((List Nod)) :=
 guardO ((((x1.length : Nat) : Int) : Int) = ((x1.length : Nat) : Int) ∧ 0 ≤ ((x1.length : Nat) : Int) ∧ ((x1.length : Nat) : Int) ≤ 1099511627776) <|
 bindO (spec_without_L1 x1 i2 n ([] : List Nod) (List.replicate (((x1.length : Nat) : Int).toNat) (0 : Int)) 0) fun x116 =>
 some x116

theorem spec_without_ok (n : Nat) (x1 : List Nod) (i2 : Int) (x68 : List Nod) (h : spec_without n x1 i2 = some x68) : FOk EE 86 [.one (.e (.sl 0 0 x1.length)), I i2] [.row .nod x1 false] (.one (.e (.sl 1 0 x68.length))) [.row .nod x1 false, .row .nod x68 true] := by
  unfold spec_without at h
  refine FOk_of_W 45 1 Try.func86 rfl rfl (Nat.le_of_ble_eq_true rfl) rfl (fun w X θ => ?_)
  refine W_seq ?_
  refine W_region ?_
  refine WO_step 1 [0] [0, 1] True ⟨[(0, .one (.e (.sl 0 0 x1.length))), (1, I i2)], [.row .nod x1 false]⟩ (by kernel_rfl) trivial ?_
  refine WO_nil rfl ?_
  refine thenS_n ?_
  refine W_seq ?_
  refine W_region ?_
  refine WO_step 2 [0, 1] [0, 1, 5] True ⟨[(0, .one (.e (.sl 0 0 x1.length))), (1, I i2), (5, .one (.e (.sl 1 0 (([] : List Nod).length))))], [.row .nod x1 false, .row .nod ([] : List Nod) true]⟩ (by kernel_rfl) trivial ?_
  refine WO_nil rfl ?_
  refine thenS_n ?_
  refine W_seq ?_
  refine W_region ?_
  refine guardO_e h (fun hg69 h => ?_)
  refine WO_step 4 [0, 1, 2] [0, 1, 5, 6] (True ∧ (((((x1.length : Nat) : Int) : Int) = ((x1.length : Nat) : Int) ∧ 0 ≤ ((x1.length : Nat) : Int) ∧ ((x1.length : Nat) : Int) ≤ 1099511627776) ∧ True)) ⟨[(0, .one (.e (.sl 0 0 x1.length))), (1, I i2), (5, .one (.e (.sl 1 0 (([] : List Nod).length)))), (6, .one (.e (.sl 2 0 ((List.replicate (((x1.length : Nat) : Int).toNat) (0 : Int)).length))))], [.row .nod x1 false, .row .nod ([] : List Nod) true, .row .int (List.replicate (((x1.length : Nat) : Int).toNat) (0 : Int)) true]⟩ (by kernel_rfl) ⟨trivial, hg69, trivial⟩ ?_
  refine WO_nil rfl ?_
  refine thenS_n ?_
  refine W_seq ?_
  refine W_seq ?_
  refine W_region ?_
  refine WO_step 1 [0, 1, 2] [0, 1, 5, 6, 7] True ⟨[(0, .one (.e (.sl 0 0 x1.length))), (1, I i2), (5, .one (.e (.sl 1 0 (([] : List Nod).length)))), (6, .one (.e (.sl 2 0 ((List.replicate (((x1.length : Nat) : Int).toNat) (0 : Int)).length)))), (7, I 0)], [.row .nod x1 false, .row .nod ([] : List Nod) true, .row .int (List.replicate (((x1.length : Nat) : Int).toNat) (0 : Int)) true]⟩ (by kernel_rfl) trivial ?_
  refine WO_nil rfl ?_
  refine thenS_n ?_
  refine W_block ?_
  refine W_loop ?_
  refine bindO_e h (fun x116 hx116 h => ?_)
  refine WL_cut (spec_without_L1_ok w X θ x1 i2 x116 n ([] : List Nod) (List.replicate (((x1.length : Nat) : Int).toNat) (0 : Int)) 0 hx116) ?_
  rintro _ _ ⟨rfl, rfl⟩
  refine blockS_y ?_
  refine thenS_n ?_
  refine W_seq ?_
  refine W_region ?_
  refine WO_step 2 [0, 1] [4] True ⟨[(4, .one (.e (.sl 1 0 x116.length)))], [.row .nod x1 false, .row .nod x116 true]⟩ (by kernel_rfl) trivial ?_
  refine WO_nil rfl ?_
  refine thenS_n ?_
  refine W_ret ?_
  cases h
  exact ⟨[0, 1], True, by kernel_rfl, trivial⟩

/- spec.DropNode -/
def spec_DropNode (n : Nat) (x1 : List Nod) (i2 : Int) : Option ((List Nod) × Bool) :=
 bindO (spec_validTree n x1) fun b14 =>
 iteO ((!b14) || (!(spec_inRange i2 1 (w64 (((x1.length : Nat) : Int) - 1)))))
 (some (([] : List Nod), false))
 (bindO (spec_without n x1 i2) fun x21 =>
 some (x21, true))

theorem spec_DropNode_ok (n : Nat) (x1 : List Nod) (i2 : Int) (x12 : List Nod) (b13 : Bool) (h : spec_DropNode n x1 i2 = some (x12, b13)) : FOk EE 66 [.one (.e (.sl 0 0 x1.length)), I i2] [.row .nod x1 false] (.tup [.e (.sl 1 0 x12.length), .e (cB b13)]) [.row .nod x1 false, .row .nod x12 true] := by
  unfold spec_DropNode at h
  refine FOk_of_W 20 1 Try.func66 rfl rfl (Nat.le_of_ble_eq_true rfl) rfl (fun w X θ => ?_)
  refine W_seq ?_
  refine W_region ?_
  refine WO_step 2 [0] [0, 1] True ⟨[(0, .one (.e (.sl 0 0 x1.length))), (1, I i2)], [.row .nod x1 false]⟩ (by kernel_rfl) trivial ?_
  refine WO_nil rfl ?_
  refine thenS_n ?_
  refine W_seq ?_
  refine W_seq ?_
  refine W_region ?_
  refine WO_step 1 [0] [0, 1, 6] True ⟨[(0, .one (.e (.sl 0 0 x1.length))), (1, I i2), (6, .one (.e (.sl 0 0 x1.length)))], [.row .nod x1 false]⟩ (by kernel_rfl) trivial ?_
  refine bindO_e h (fun b14 hc15 h => ?_)
  refine WO_call [.ro 0] Try.f37 rfl rfl rfl (by kernel_rfl) Try.func37 rfl (by kernel_rfl) (spec_validTree_ok n x1 b14 hc15) (And.intro (And.intro rfl rfl) (trivial)) rfl ?_
  refine WO_step 2 [0] [0, 1, 9] True ⟨[(0, .one (.e (.sl 0 0 x1.length))), (1, I i2), (9, B (!b14))], [.row .nod x1 false]⟩ (by kernel_rfl) trivial ?_
  refine WO_thru ⟨[(0, .one (.e (.sl 0 0 x1.length))), (1, I i2), (16, B ((!b14) || (!(spec_inRange i2 1 (w64 (((x1.length : Nat) : Int) - 1))))))], [.row .nod x1 false]⟩ ?_ ?_
  · refine WO_if 9 rfl (fun hb18 => ?_) (fun hb18 => ?_)
    · refine WO_step 7 [0] [0, 1, 16] True ⟨[(0, .one (.e (.sl 0 0 x1.length))), (1, I i2), (16, B true)], [.row .nod x1 false]⟩ (by kernel_rfl) trivial ?_
      exact WO_nil rfl ⟨rfl, by first | rfl | (rw [hb18]; first | done | rfl)⟩
    · refine WO_step 4 [0] [0, 1, 9, 10, 13] (True ∧ (True ∧ True)) ⟨[(0, .one (.e (.sl 0 0 x1.length))), (1, I i2), (9, B false), (10, I i2), (13, I (w64 (((x1.length : Nat) : Int) - 1)))], [.row .nod x1 false]⟩ (by kernel_rfl) ⟨trivial, trivial, trivial⟩ ?_
      refine WO_call [] Try.f65 rfl rfl rfl (by kernel_rfl) Try.func65 rfl (by kernel_rfl) (spec_inRange_ok i2 1 (w64 (((x1.length : Nat) : Int) - 1))) (trivial) rfl ?_
      refine WO_step 2 [0] [0, 1, 16] True ⟨[(0, .one (.e (.sl 0 0 x1.length))), (1, I i2), (16, B (!(spec_inRange i2 1 (w64 (((x1.length : Nat) : Int) - 1)))))], [.row .nod x1 false]⟩ (by kernel_rfl) trivial ?_
      exact WO_nil rfl ⟨rfl, by first | rfl | (rw [hb18]; first | done | rfl)⟩
  · refine thenS_n ?_
    refine iteO_e h (fun hb20 h => W_true rfl hb20 ?_) (fun hb20 h => W_false rfl hb20 ?_)
    · refine W_seq ?_
      refine W_region ?_
      refine WO_step 2 [0] [4, 5] True ⟨[(4, .one (.e (.nsl))), (5, B false)], [.row .nod x1 false]⟩ (by kernel_rfl) trivial ?_
      refine WO_nilrow 4 .nod rfl ?_
      refine WO_sub [0, 1] [4, 5] (st' := ⟨[(4, .one (.e (.sl 1 0 (([] : List Nod).length)))), (5, B false)], [.row .nod x1 false, .row .nod ([] : List Nod) true]⟩) (by kernel_rfl) ?_
      refine WO_nil rfl ?_
      refine thenS_n ?_
      refine W_ret ?_
      refine thenS_r ?_
      cases h
      exact ⟨[0, 1], True, by kernel_rfl, trivial⟩
    · refine W_sub [0] [0, 1] (st' := ⟨[(0, .one (.e (.sl 0 0 x1.length))), (1, I i2)], [.row .nod x1 false]⟩) (by kernel_rfl) ?_
      refine W_skip ?_
      refine thenS_n ?_
      refine W_seq ?_
      refine W_region ?_
      refine WO_step 2 [0] [17, 18] True ⟨[(17, .one (.e (.sl 0 0 x1.length))), (18, I i2)], [.row .nod x1 false]⟩ (by kernel_rfl) trivial ?_
      refine bindO_e h (fun x21 hc22 h => ?_)
      refine WO_call [.ro 0] Try.f86 rfl rfl rfl (by kernel_rfl) Try.func86 rfl (by kernel_rfl) (spec_without_ok n x1 i2 x21 hc22) (And.intro (And.intro rfl rfl) (trivial)) rfl ?_
      refine WO_step 2 [0, 1] [4, 5] True ⟨[(4, .one (.e (.sl 1 0 x21.length))), (5, B true)], [.row .nod x1 false, .row .nod x21 true]⟩ (by kernel_rfl) trivial ?_
      refine WO_nil rfl ?_
      refine thenS_n ?_
      refine W_ret ?_
      cases h
      exact ⟨[0, 1], True, by kernel_rfl, trivial⟩

/- spec.SetValue -/
def spec_SetValue (n : Nat) (x1 : List Nod) (i2 : Int) (i3 : Int) : Option ((List Nod) × Bool) :=
 bindO (spec_validTree n x1) fun b17 =>
 iteO ((!b17) || ((!(spec_inRange i2 0 (w64 (((x1.length : Nat) : Int) - 1)))) || (!(spec_inRange i3 (-1000) 1000))))
 (some (([] : List Nod), false))
 (guardO (0 = 0 ∧ ([] : List Nod).length = ([] : List Nod).length ∧ ([] : List Nod).length + ((x1.drop 0).take x1.length).length ≤ 1099511627776) <|
 guardO (0 ≤ i2 ∧ i2 < (((([] : List Nod) ++ ((x1.drop 0).take x1.length)).length : Nat) : Int)) <|
 some (((([] : List Nod) ++ ((x1.drop 0).take x1.length)).set i2.toNat (⟨((([] : List Nod) ++ ((x1.drop 0).take x1.length)).getD i2.toNat dnod).parent, ((([] : List Nod) ++ ((x1.drop 0).take x1.length)).getD i2.toNat dnod).name, i3⟩ : Nod)), true))

theorem spec_SetValue_ok (n : Nat) (x1 : List Nod) (i2 : Int) (i3 : Int) (x15 : List Nod) (b16 : Bool) (h : spec_SetValue n x1 i2 i3 = some (x15, b16)) : FOk EE 67 [.one (.e (.sl 0 0 x1.length)), I i2, I i3] [.row .nod x1 false] (.tup [.e (.sl 1 0 x15.length), .e (cB b16)]) [.row .nod x1 false, .row .nod x15 true] := by
  unfold spec_SetValue at h
  refine FOk_of_W 34 1 Try.func67 rfl rfl (Nat.le_of_ble_eq_true rfl) rfl (fun w X θ => ?_)
  refine W_seq ?_
  refine W_region ?_
  refine WO_step 2 [0] [0, 1, 2] True ⟨[(0, .one (.e (.sl 0 0 x1.length))), (1, I i2), (2, I i3)], [.row .nod x1 false]⟩ (by kernel_rfl) trivial ?_
  refine WO_nil rfl ?_
  refine thenS_n ?_
  refine W_seq ?_
  refine W_seq ?_
  refine W_region ?_
  refine WO_step 1 [0] [0, 1, 2, 9] True ⟨[(0, .one (.e (.sl 0 0 x1.length))), (1, I i2), (2, I i3), (9, .one (.e (.sl 0 0 x1.length)))], [.row .nod x1 false]⟩ (by kernel_rfl) trivial ?_
  refine bindO_e h (fun b17 hc18 h => ?_)
  refine WO_call [.ro 0] Try.f37 rfl rfl rfl (by kernel_rfl) Try.func37 rfl (by kernel_rfl) (spec_validTree_ok n x1 b17 hc18) (And.intro (And.intro rfl rfl) (trivial)) rfl ?_
  refine WO_step 2 [0] [0, 1, 2, 12] True ⟨[(0, .one (.e (.sl 0 0 x1.length))), (1, I i2), (2, I i3), (12, B (!b17))], [.row .nod x1 false]⟩ (by kernel_rfl) trivial ?_
  refine WO_thru ⟨[(0, .one (.e (.sl 0 0 x1.length))), (1, I i2), (2, I i3), (24, B ((!b17) || ((!(spec_inRange i2 0 (w64 (((x1.length : Nat) : Int) - 1)))) || (!(spec_inRange i3 (-1000) 1000)))))], [.row .nod x1 false]⟩ ?_ ?_
  · refine WO_if 12 rfl (fun hb22 => ?_) (fun hb22 => ?_)
    · refine WO_step 12 [0] [0, 1, 2, 24] True ⟨[(0, .one (.e (.sl 0 0 x1.length))), (1, I i2), (2, I i3), (24, B true)], [.row .nod x1 false]⟩ (by kernel_rfl) trivial ?_
      exact WO_nil rfl ⟨rfl, by first | rfl | (rw [hb22]; first | done | rfl)⟩
    · refine WO_step 4 [0] [0, 1, 2, 12, 13, 16] (True ∧ (True ∧ True)) ⟨[(0, .one (.e (.sl 0 0 x1.length))), (1, I i2), (2, I i3), (12, B false), (13, I i2), (16, I (w64 (((x1.length : Nat) : Int) - 1)))], [.row .nod x1 false]⟩ (by kernel_rfl) ⟨trivial, trivial, trivial⟩ ?_
      refine WO_call [] Try.f65 rfl rfl rfl (by kernel_rfl) Try.func65 rfl (by kernel_rfl) (spec_inRange_ok i2 0 (w64 (((x1.length : Nat) : Int) - 1))) (trivial) rfl ?_
      refine WO_step 3 [0] [0, 1, 2, 20] True ⟨[(0, .one (.e (.sl 0 0 x1.length))), (1, I i2), (2, I i3), (20, B (!(spec_inRange i2 0 (w64 (((x1.length : Nat) : Int) - 1)))))], [.row .nod x1 false]⟩ (by kernel_rfl) trivial ?_
      refine WO_if 20 rfl (fun hb23 => ?_) (fun hb23 => ?_)
      · refine WO_step 4 [0] [0, 1, 2, 24] True ⟨[(0, .one (.e (.sl 0 0 x1.length))), (1, I i2), (2, I i3), (24, B true)], [.row .nod x1 false]⟩ (by kernel_rfl) trivial ?_
        exact WO_nil rfl ⟨rfl, by first | rfl | (simp only [hb22, hb23]; first | done | rfl)⟩
      · refine WO_step 1 [0] [0, 1, 2, 20, 21] True ⟨[(0, .one (.e (.sl 0 0 x1.length))), (1, I i2), (2, I i3), (20, B false), (21, I i3)], [.row .nod x1 false]⟩ (by kernel_rfl) trivial ?_
        refine WO_call [] Try.f65 rfl rfl rfl (by kernel_rfl) Try.func65 rfl (by kernel_rfl) (spec_inRange_ok i3 (-1000) 1000) (trivial) rfl ?_
        refine WO_step 2 [0] [0, 1, 2, 24] True ⟨[(0, .one (.e (.sl 0 0 x1.length))), (1, I i2), (2, I i3), (24, B (!(spec_inRange i3 (-1000) 1000)))], [.row .nod x1 false]⟩ (by kernel_rfl) trivial ?_
        exact WO_nil rfl ⟨rfl, by first | rfl | (simp only [hb22, hb23]; first | done | rfl)⟩
  · refine thenS_n ?_
    refine iteO_e h (fun hb25 h => W_true rfl hb25 ?_) (fun hb25 h => W_false rfl hb25 ?_)
    · refine W_seq ?_
      refine W_region ?_
      refine WO_step 2 [0] [6, 7] True ⟨[(6, .one (.e (.nsl))), (7, B false)], [.row .nod x1 false]⟩ (by kernel_rfl) trivial ?_
      refine WO_nilrow 6 .nod rfl ?_
      refine WO_sub [0, 1] [6, 7] (st' := ⟨[(6, .one (.e (.sl 1 0 (([] : List Nod).length)))), (7, B false)], [.row .nod x1 false, .row .nod ([] : List Nod) true]⟩) (by kernel_rfl) ?_
      refine WO_nil rfl ?_
      refine thenS_n ?_
      refine W_ret ?_
      refine thenS_r ?_
      cases h
      exact ⟨[0, 1], True, by kernel_rfl, trivial⟩
    · refine W_sub [0] [0, 1, 2] (st' := ⟨[(0, .one (.e (.sl 0 0 x1.length))), (1, I i2), (2, I i3)], [.row .nod x1 false]⟩) (by kernel_rfl) ?_
      refine W_skip ?_
      refine thenS_n ?_
      refine W_seq ?_
      refine W_region ?_
      refine guardO_e h (fun hg26 h => ?_)
      refine WO_step 4 [0, 2] [1, 2, 8] ((0 = 0 ∧ ([] : List Nod).length = ([] : List Nod).length ∧ ([] : List Nod).length + ((x1.drop 0).take x1.length).length ≤ 1099511627776) ∧ True) ⟨[(1, I i2), (2, I i3), (8, .one (.e (.sl 1 0 ((([] : List Nod) ++ ((x1.drop 0).take x1.length)).length))))], [.row .nod x1 false, .row .nod (([] : List Nod) ++ ((x1.drop 0).take x1.length)) true]⟩ (by kernel_rfl) ⟨hg26, trivial⟩ ?_
      refine WO_nil rfl ?_
      refine thenS_n ?_
      refine W_seq ?_
      refine W_region ?_
      refine guardO_e h (fun hg27 h => ?_)
      refine WO_step 6 [0, 1] [8] ((0 ≤ i2 ∧ i2 < (((([] : List Nod) ++ ((x1.drop 0).take x1.length)).length : Nat) : Int)) ∧ (True ∧ True)) ⟨[(8, .one (.e (.sl 1 0 ((([] : List Nod) ++ ((x1.drop 0).take x1.length)).length))))], [.row .nod x1 false, .row .nod ((([] : List Nod) ++ ((x1.drop 0).take x1.length)).set i2.toNat (⟨((([] : List Nod) ++ ((x1.drop 0).take x1.length)).getD i2.toNat dnod).parent, ((([] : List Nod) ++ ((x1.drop 0).take x1.length)).getD i2.toNat dnod).name, i3⟩ : Nod)) true]⟩ (by kernel_rfl) ⟨hg27, trivial, trivial⟩ ?_
      refine WO_eq (st' := ⟨[(8, .one (.e (.sl 1 0 (((([] : List Nod) ++ ((x1.drop 0).take x1.length)).set i2.toNat (⟨((([] : List Nod) ++ ((x1.drop 0).take x1.length)).getD i2.toNat dnod).parent, ((([] : List Nod) ++ ((x1.drop 0).take x1.length)).getD i2.toNat dnod).name, i3⟩ : Nod)).length))))], [.row .nod x1 false, .row .nod ((([] : List Nod) ++ ((x1.drop 0).take x1.length)).set i2.toNat (⟨((([] : List Nod) ++ ((x1.drop 0).take x1.length)).getD i2.toNat dnod).parent, ((([] : List Nod) ++ ((x1.drop 0).take x1.length)).getD i2.toNat dnod).name, i3⟩ : Nod)) true]⟩) (by simp only [List.length_set]) ?_
      refine WO_nil rfl ?_
      refine thenS_n ?_
      refine W_seq ?_
      refine W_region ?_
      refine WO_step 3 [0, 1] [6, 7] True ⟨[(6, .one (.e (.sl 1 0 (((([] : List Nod) ++ ((x1.drop 0).take x1.length)).set i2.toNat (⟨((([] : List Nod) ++ ((x1.drop 0).take x1.length)).getD i2.toNat dnod).parent, ((([] : List Nod) ++ ((x1.drop 0).take x1.length)).getD i2.toNat dnod).name, i3⟩ : Nod)).length)))), (7, B true)], [.row .nod x1 false, .row .nod ((([] : List Nod) ++ ((x1.drop 0).take x1.length)).set i2.toNat (⟨((([] : List Nod) ++ ((x1.drop 0).take x1.length)).getD i2.toNat dnod).parent, ((([] : List Nod) ++ ((x1.drop 0).take x1.length)).getD i2.toNat dnod).name, i3⟩ : Nod)) true]⟩ (by kernel_rfl) trivial ?_
      refine WO_nil rfl ?_
      refine thenS_n ?_
      refine W_ret ?_
      cases h
      exact ⟨[0, 1], True, by kernel_rfl, trivial⟩

/- spec.cut -/
def spec_cut_L1 (s1 : Str) : Nat → Int → Option ((Str × Str) ⊕ (Unit))
| 0, _ => none
| n + 1, i86 =>
 iteO (decide (0 < i86))
 (guardO (0 ≤ i86 ∧ i86 < ((s1.length : Nat) : Int)) <|
 iteO (decide (((s1.getD i86.toNat 0).toNat : Int) = 47))
 (guardO (0 ≤ i86 ∧ i86 ≤ ((s1.length : Nat) : Int)) <|
 guardO (0 ≤ (w64 (i86 + 1)) ∧ (w64 (i86 + 1)) ≤ ((s1.length : Nat) : Int)) <|
 some (.inl ((s1.take i86.toNat), (s1.drop ((w64 (i86 + 1)).toNat)))))
 (spec_cut_L1 s1 n (w64 (i86 - 1))))
 (some (.inr ()))

theorem spec_cut_L1_ok (w : World) (X : Nat → Prop) (θ : List Loc) (s1 : Str) (v : (Str × Str) ⊕ (Unit)) : ∀ (n : Nat) (i86 : Int), spec_cut_L1 s1 n i86 = some v → WL EE ⟨w, X, θ, 28, 0⟩ (subC [1, 0, 1, 4, 4] (bodyC Try.f68)) (fun (e : Exit) (s : St) => (match v with | (.inl (s104, s105)) => e = .ret ∧ s = ⟨[(2, S s104), (3, S s105)], []⟩ | (.inr _) => e = .exit 0 ∧ s = ⟨[(0, S s1)], []⟩ : Prop)) ⟨[(0, S s1), (4, I i86)], []⟩ := by
  intro n
  induction n with
  | zero => intro _ h; exact none_e h
  | succ n ih =>
    intro i86 h
    rw [spec_cut_L1] at h
    refine WL_round ?_
    refine W_seq ?_
    refine W_seq ?_
    refine W_region ?_
    refine WO_step 2 [] [0, 4, 9] (True ∧ True) ⟨[(0, S s1), (4, I i86), (9, B (decide (0 < i86)))], []⟩ (by kernel_rfl) ⟨trivial, trivial⟩ ?_
    refine WO_nil rfl ?_
    refine thenS_n ?_
    refine iteO_e h (fun hb108 h => W_true rfl hb108 ?_) (fun hb108 h => W_false rfl hb108 ?_)
    · refine W_sub [] [0, 4] (st' := ⟨[(0, S s1), (4, I i86)], []⟩) (by kernel_rfl) ?_
      refine W_skip ?_
      refine thenS_n ?_
      refine W_seq ?_
      refine W_block ?_
      refine W_seq ?_
      refine W_region ?_
      refine guardO_e h (fun hg116 h => ?_)
      refine WO_step 4 [] [0, 4, 15] ((0 ≤ i86 ∧ i86 < ((s1.length : Nat) : Int)) ∧ (True ∧ True)) ⟨[(0, S s1), (4, I i86), (15, B (decide (((s1.getD i86.toNat 0).toNat : Int) = 47)))], []⟩ (by kernel_rfl) ⟨hg116, trivial, trivial⟩ ?_
      refine WO_nil rfl ?_
      refine thenS_n ?_
      refine iteO_e h (fun hb120 h => W_true rfl hb120 ?_) (fun hb120 h => W_false rfl hb120 ?_)
      · refine W_seq ?_
        refine guardO_e h (fun hg121 h => ?_)
        refine guardO_e h (fun hg122 h => ?_)
        refine W_cut (Q' := fun (e : Exit) (s : St) => e = .normal ∧ s = ⟨[(2, S (s1.take i86.toNat)), (3, S (s1.drop ((w64 (i86 + 1)).toNat)))], []⟩) ?_ ?_
        · refine W_draw [] true (by kernel_rfl) (by kernel_rfl) ?_
          refine WD_takeK [0, 1, 2, 3, 4, 5, 6, 7, 8] [2, 3] [2, 3] (φ := ((0 ≤ i86 ∧ i86 ≤ ((s1.length : Nat) : Int)) ∧ (0 ≤ i86 ∧ i86 ≤ ((s1.length : Nat) : Int)) ∧ (True ∧ True ∧ ((0 ≤ (w64 (i86 + 1)) ∧ (w64 (i86 + 1)) ≤ ((s1.length : Nat) : Int)) ∧ (0 ≤ (w64 (i86 + 1)) ∧ (w64 (i86 + 1)) ≤ ((s1.length : Nat) : Int)) ∧ True)))) (ls' := #[true, true, true, true, true, true, true, true, true]) (Ts' := [(2, S (s1.take i86.toNat)), (3, S (s1.drop ((w64 (i86 + 1)).toNat)))]) (st' := ⟨[(2, S (s1.take i86.toNat)), (3, S (s1.drop ((w64 (i86 + 1)).toNat)))], []⟩) (n2 := 0) (by kernel_rfl) ⟨hg121, hg121, trivial, trivial, hg122, hg122, trivial⟩ rfl ?_
          exact WD_done [] [2, 3] (st' := ⟨[(2, S (s1.take i86.toNat)), (3, S (s1.drop ((w64 (i86 + 1)).toNat)))], []⟩) (by kernel_rfl) (by kernel_rfl) (And.intro rfl rfl)
        · rintro _ _ ⟨rfl, rfl⟩
          refine thenS_n ?_
          refine W_ret ?_
          refine blockS_r ?_
          refine thenS_r ?_
          refine thenS_r ?_
          cases h
          exact And.intro rfl rfl
      · refine W_sub [] [0, 4] (st' := ⟨[(0, S s1), (4, I i86)], []⟩) (by kernel_rfl) ?_
        refine W_skip ?_
        refine blockS_n ?_
        refine thenS_n ?_
        refine W_region ?_
        refine WO_step 3 [] [0, 4] (True ∧ True) ⟨[(0, S s1), (4, I (w64 (i86 - 1)))], []⟩ (by kernel_rfl) ⟨trivial, trivial⟩ ?_
        refine WO_nil rfl ?_
        refine thenS_n ?_
        exact ih _ h
    · refine W_sub [] [0] (st' := ⟨[(0, S s1)], []⟩) (by kernel_rfl) ?_
      refine W_exit ?_
      refine thenS_e ?_
      refine thenS_e ?_
      cases h
      exact And.intro rfl rfl

def spec_cut (n : Nat) (s1 : Str) : Option (Str × Str) :=
 bindO (spec_cut_L1 s1 n (w64 (((s1.length : Nat) : Int) - 1))) fun v123 =>
 match v123 with
 | (.inl (s104, s105)) => (some (s104, s105))
 | (.inr _) => (iteO (decide (((s1.length : Nat) : Int) = 0))
 (some ([], []))
 (guardO (0 ≤ (1 : Int) ∧ (1 : Int) ≤ ((s1.length : Nat) : Int)) <|
 some ([47], (s1.drop 1))))


theorem spec_cut_ok (n : Nat) (s1 : Str) (s63 : Str) (s64 : Str) (h : spec_cut n s1 = some (s63, s64)) : FOk EE 68 [S s1] [] (.tup [.e (cS s63), .e (cS s64)]) [] := by
  unfold spec_cut at h
  refine FOk_of_W 28 0 Try.func68 rfl rfl (Nat.le_of_ble_eq_true rfl) rfl (fun w X θ => ?_)
  refine W_seq ?_
  refine W_region ?_
  refine WO_step 2 [] [0] True ⟨[(0, S s1)], []⟩ (by kernel_rfl) trivial ?_
  refine WO_nil rfl ?_
  refine thenS_n ?_
  refine W_seq ?_
  refine W_seq ?_
  refine W_region ?_
  refine WO_step 4 [] [0, 4] (True ∧ (True ∧ True)) ⟨[(0, S s1), (4, I (w64 (((s1.length : Nat) : Int) - 1)))], []⟩ (by kernel_rfl) ⟨trivial, trivial, trivial⟩ ?_
  refine WO_nil rfl ?_
  refine thenS_n ?_
  refine W_block ?_
  refine W_loop ?_
  refine bindO_e h (fun v123 hv123 h => ?_)
  refine WL_cut (spec_cut_L1_ok w X θ s1 v123 n (w64 (((s1.length : Nat) : Int) - 1)) hv123) ?_
  rcases v123 with ⟨s104, s105⟩ | _
  · rintro _ _ ⟨rfl, rfl⟩
    refine blockS_r ?_
    refine thenS_r ?_
    cases h
    exact ⟨[], True, by kernel_rfl, trivial⟩
  · rintro _ _ ⟨rfl, rfl⟩
    refine blockS_y ?_
    refine thenS_n ?_
    refine W_seq ?_
    refine W_seq ?_
    refine W_region ?_
    refine WO_step 3 [] [0, 25] (True ∧ (True ∧ True)) ⟨[(0, S s1), (25, B (decide (((s1.length : Nat) : Int) = 0)))], []⟩ (by kernel_rfl) ⟨trivial, trivial, trivial⟩ ?_
    refine WO_nil rfl ?_
    refine thenS_n ?_
    refine iteO_e h (fun hb125 h => W_true rfl hb125 ?_) (fun hb125 h => W_false rfl hb125 ?_)
    · refine W_seq ?_
      refine W_region ?_
      refine WO_step 2 [] [2, 3] True ⟨[(2, S []), (3, S [])], []⟩ (by kernel_rfl) trivial ?_
      refine WO_nil rfl ?_
      refine thenS_n ?_
      refine W_ret ?_
      refine thenS_r ?_
      cases h
      exact ⟨[], True, by kernel_rfl, trivial⟩
    · refine W_sub [] [0] (st' := ⟨[(0, S s1)], []⟩) (by kernel_rfl) ?_
      refine W_skip ?_
      refine thenS_n ?_
      refine W_seq ?_
      refine guardO_e h (fun hg126 h => ?_)
      refine W_cut (Q' := fun (e : Exit) (s : St) => e = .normal ∧ s = ⟨[(2, S [47]), (3, S (s1.drop 1))], []⟩) ?_ ?_
      · refine W_draw [] true (by kernel_rfl) (by kernel_rfl) ?_
        refine WD_takeK [0, 1, 2, 3] [2, 3] [2, 3] (φ := ((0 ≤ (1 : Int) ∧ (1 : Int) ≤ ((s1.length : Nat) : Int)) ∧ (0 ≤ (1 : Int) ∧ (1 : Int) ≤ ((s1.length : Nat) : Int)) ∧ True)) (ls' := #[true, true, true, true]) (Ts' := [(2, S [47]), (3, S (s1.drop 1))]) (st' := ⟨[(2, S [47]), (3, S (s1.drop 1))], []⟩) (n2 := 0) (by kernel_rfl) ⟨hg126, hg126, trivial⟩ rfl ?_
        exact WD_done [] [2, 3] (st' := ⟨[(2, S [47]), (3, S (s1.drop 1))], []⟩) (by kernel_rfl) (by kernel_rfl) (And.intro rfl rfl)
      · rintro _ _ ⟨rfl, rfl⟩
        refine thenS_n ?_
        refine W_ret ?_
        cases h
        exact ⟨[], True, by kernel_rfl, trivial⟩

/- spec.AddNode -/
def spec_AddNode (n : Nat) (x1 : List Nod) (i2 : Int) (s3 : Str) (i4 : Int) : Option ((List Nod) × Int × Bool) :=
 bindO (spec_validTree n x1) fun b21 =>
 iteO ((!b21) || (decide (((x1.length : Nat) : Int) = 12)))
 (some (([] : List Nod), (-1), false))
 (guardO (0 = 0 ∧ ([] : List Nod).length = ([] : List Nod).length ∧ ([] : List Nod).length + ((x1.drop 0).take x1.length).length ≤ 1099511627776) <|
 guardO (0 = 0 ∧ (([] : List Nod) ++ ((x1.drop 0).take x1.length)).length = (([] : List Nod) ++ ((x1.drop 0).take x1.length)).length ∧ (([] : List Nod) ++ ((x1.drop 0).take x1.length)).length + (([(⟨i2, s3, i4⟩ : Nod)].drop 0).take ([(⟨i2, s3, i4⟩ : Nod)].length)).length ≤ 1099511627776) <|
 bindO (spec_validTree n ((([] : List Nod) ++ ((x1.drop 0).take x1.length)) ++ (([(⟨i2, s3, i4⟩ : Nod)].drop 0).take ([(⟨i2, s3, i4⟩ : Nod)].length)))) fun b30 =>
 iteO (!b30)
 (some (([] : List Nod), (-1), false))
 (some (((([] : List Nod) ++ ((x1.drop 0).take x1.length)) ++ (([(⟨i2, s3, i4⟩ : Nod)].drop 0).take ([(⟨i2, s3, i4⟩ : Nod)].length))), ((x1.length : Nat) : Int), true)))

theorem spec_AddNode_ok (n : Nat) (x1 : List Nod) (i2 : Int) (s3 : Str) (i4 : Int) (x18 : List Nod) (i19 : Int) (b20 : Bool) (h : spec_AddNode n x1 i2 s3 i4 = some (x18, i19, b20)) : FOk EE 59 [.one (.e (.sl 0 0 x1.length)), I i2, S s3, I i4] [.row .nod x1 false] (.tup [.e (.sl 1 0 x18.length), .e (cI i19), .e (cB b20)]) [.row .nod x1 false, .row .nod x18 true] := by
  unfold spec_AddNode at h
  refine FOk_of_W 35 1 Try.func59 rfl rfl (Nat.le_of_ble_eq_true rfl) rfl (fun w X θ => ?_)
  refine W_seq ?_
  refine W_region ?_
  refine WO_step 3 [0] [0, 1, 2, 3] True ⟨[(0, .one (.e (.sl 0 0 x1.length))), (1, I i2), (2, S s3), (3, I i4)], [.row .nod x1 false]⟩ (by kernel_rfl) trivial ?_
  refine WO_nil rfl ?_
  refine thenS_n ?_
  refine W_seq ?_
  refine W_seq ?_
  refine W_region ?_
  refine WO_step 1 [0] [0, 1, 2, 3, 12] True ⟨[(0, .one (.e (.sl 0 0 x1.length))), (1, I i2), (2, S s3), (3, I i4), (12, .one (.e (.sl 0 0 x1.length)))], [.row .nod x1 false]⟩ (by kernel_rfl) trivial ?_
  refine bindO_e h (fun b21 hc22 h => ?_)
  refine WO_call [.ro 0] Try.f37 rfl rfl rfl (by kernel_rfl) Try.func37 rfl (by kernel_rfl) (spec_validTree_ok n x1 b21 hc22) (And.intro (And.intro rfl rfl) (trivial)) rfl ?_
  refine WO_step 2 [0] [0, 1, 2, 3, 15] True ⟨[(0, .one (.e (.sl 0 0 x1.length))), (1, I i2), (2, S s3), (3, I i4), (15, B (!b21))], [.row .nod x1 false]⟩ (by kernel_rfl) trivial ?_
  refine WO_thru ⟨[(0, .one (.e (.sl 0 0 x1.length))), (1, I i2), (2, S s3), (3, I i4), (19, B ((!b21) || (decide (((x1.length : Nat) : Int) = 12))))], [.row .nod x1 false]⟩ ?_ ?_
  · refine WO_if 15 rfl (fun hb25 => ?_) (fun hb25 => ?_)
    · refine WO_step 4 [0] [0, 1, 2, 3, 19] True ⟨[(0, .one (.e (.sl 0 0 x1.length))), (1, I i2), (2, S s3), (3, I i4), (19, B true)], [.row .nod x1 false]⟩ (by kernel_rfl) trivial ?_
      exact WO_nil rfl ⟨rfl, by first | rfl | (rw [hb25]; first | done | rfl)⟩
    · refine WO_step 4 [0] [0, 1, 2, 3, 19] (True ∧ (True ∧ True)) ⟨[(0, .one (.e (.sl 0 0 x1.length))), (1, I i2), (2, S s3), (3, I i4), (19, B (decide (((x1.length : Nat) : Int) = 12)))], [.row .nod x1 false]⟩ (by kernel_rfl) ⟨trivial, trivial, trivial⟩ ?_
      exact WO_nil rfl ⟨rfl, by first | rfl | (rw [hb25]; first | done | rfl)⟩
  · refine thenS_n ?_
    refine iteO_e h (fun hb27 h => W_true rfl hb27 ?_) (fun hb27 h => W_false rfl hb27 ?_)
    · refine W_seq ?_
      refine W_region ?_
      refine WO_step 3 [0] [8, 9, 10] True ⟨[(8, .one (.e (.nsl))), (9, I (-1)), (10, B false)], [.row .nod x1 false]⟩ (by kernel_rfl) trivial ?_
      refine WO_nilrow 8 .nod rfl ?_
      refine WO_sub [0, 1] [8, 9, 10] (st' := ⟨[(8, .one (.e (.sl 1 0 (([] : List Nod).length)))), (9, I (-1)), (10, B false)], [.row .nod x1 false, .row .nod ([] : List Nod) true]⟩) (by kernel_rfl) ?_
      refine WO_nil rfl ?_
      refine thenS_n ?_
      refine W_ret ?_
      refine thenS_r ?_
      cases h
      exact ⟨[0, 1], True, by kernel_rfl, trivial⟩
    · refine W_sub [0] [0, 1, 2, 3] (st' := ⟨[(0, .one (.e (.sl 0 0 x1.length))), (1, I i2), (2, S s3), (3, I i4)], [.row .nod x1 false]⟩) (by kernel_rfl) ?_
      refine W_skip ?_
      refine thenS_n ?_
      refine W_seq ?_
      refine W_region ?_
      refine guardO_e h (fun hg28 h => ?_)
      refine guardO_e h (fun hg29 h => ?_)
      refine WO_step 10 [0, 4] [0, 11] ((0 = 0 ∧ ([] : List Nod).length = ([] : List Nod).length ∧ ([] : List Nod).length + ((x1.drop 0).take x1.length).length ≤ 1099511627776) ∧ ((0 = 0 ∧ (([] : List Nod) ++ ((x1.drop 0).take x1.length)).length = (([] : List Nod) ++ ((x1.drop 0).take x1.length)).length ∧ (([] : List Nod) ++ ((x1.drop 0).take x1.length)).length + (([(⟨i2, s3, i4⟩ : Nod)].drop 0).take ([(⟨i2, s3, i4⟩ : Nod)].length)).length ≤ 1099511627776) ∧ True)) ⟨[(0, .one (.e (.sl 0 0 x1.length))), (11, .one (.e (.sl 1 0 (((([] : List Nod) ++ ((x1.drop 0).take x1.length)) ++ (([(⟨i2, s3, i4⟩ : Nod)].drop 0).take ([(⟨i2, s3, i4⟩ : Nod)].length))).length))))], [.row .nod x1 false, .row .nod ((([] : List Nod) ++ ((x1.drop 0).take x1.length)) ++ (([(⟨i2, s3, i4⟩ : Nod)].drop 0).take ([(⟨i2, s3, i4⟩ : Nod)].length))) true]⟩ (by kernel_rfl) ⟨hg28, hg29, trivial⟩ ?_
      refine WO_nil rfl ?_
      refine thenS_n ?_
      refine W_seq ?_
      refine W_seq ?_
      refine W_region ?_
      refine WO_step 1 [0, 1] [0, 11, 29] True ⟨[(0, .one (.e (.sl 0 0 x1.length))), (11, .one (.e (.sl 1 0 (((([] : List Nod) ++ ((x1.drop 0).take x1.length)) ++ (([(⟨i2, s3, i4⟩ : Nod)].drop 0).take ([(⟨i2, s3, i4⟩ : Nod)].length))).length)))), (29, .one (.e (.sl 1 0 (((([] : List Nod) ++ ((x1.drop 0).take x1.length)) ++ (([(⟨i2, s3, i4⟩ : Nod)].drop 0).take ([(⟨i2, s3, i4⟩ : Nod)].length))).length))))], [.row .nod x1 false, .row .nod ((([] : List Nod) ++ ((x1.drop 0).take x1.length)) ++ (([(⟨i2, s3, i4⟩ : Nod)].drop 0).take ([(⟨i2, s3, i4⟩ : Nod)].length))) true]⟩ (by kernel_rfl) trivial ?_
      refine bindO_e h (fun b30 hc31 h => ?_)
      refine WO_call [.ro 1] Try.f37 rfl rfl rfl (by kernel_rfl) Try.func37 rfl (by kernel_rfl) (spec_validTree_ok n ((([] : List Nod) ++ ((x1.drop 0).take x1.length)) ++ (([(⟨i2, s3, i4⟩ : Nod)].drop 0).take ([(⟨i2, s3, i4⟩ : Nod)].length))) b30 hc31) (And.intro (And.intro rfl rfl) (trivial)) rfl ?_
      refine WO_step 1 [0, 1] [0, 11, 31] True ⟨[(0, .one (.e (.sl 0 0 x1.length))), (11, .one (.e (.sl 1 0 (((([] : List Nod) ++ ((x1.drop 0).take x1.length)) ++ (([(⟨i2, s3, i4⟩ : Nod)].drop 0).take ([(⟨i2, s3, i4⟩ : Nod)].length))).length)))), (31, B (!b30))], [.row .nod x1 false, .row .nod ((([] : List Nod) ++ ((x1.drop 0).take x1.length)) ++ (([(⟨i2, s3, i4⟩ : Nod)].drop 0).take ([(⟨i2, s3, i4⟩ : Nod)].length))) true]⟩ (by kernel_rfl) trivial ?_
      refine WO_nil rfl ?_
      refine thenS_n ?_
      refine iteO_e h (fun hb33 h => W_true rfl hb33 ?_) (fun hb33 h => W_false rfl hb33 ?_)
      · refine W_seq ?_
        refine W_region ?_
        refine WO_step 3 [0] [8, 9, 10] True ⟨[(8, .one (.e (.nsl))), (9, I (-1)), (10, B false)], [.row .nod x1 false]⟩ (by kernel_rfl) trivial ?_
        refine WO_nilrow 8 .nod rfl ?_
        refine WO_sub [0, 1] [8, 9, 10] (st' := ⟨[(8, .one (.e (.sl 1 0 (([] : List Nod).length)))), (9, I (-1)), (10, B false)], [.row .nod x1 false, .row .nod ([] : List Nod) true]⟩) (by kernel_rfl) ?_
        refine WO_nil rfl ?_
        refine thenS_n ?_
        refine W_ret ?_
        refine thenS_r ?_
        cases h
        exact ⟨[0, 1], True, by kernel_rfl, trivial⟩
      · refine W_sub [0, 1] [0, 11] (st' := ⟨[(0, .one (.e (.sl 0 0 x1.length))), (11, .one (.e (.sl 1 0 (((([] : List Nod) ++ ((x1.drop 0).take x1.length)) ++ (([(⟨i2, s3, i4⟩ : Nod)].drop 0).take ([(⟨i2, s3, i4⟩ : Nod)].length))).length))))], [.row .nod x1 false, .row .nod ((([] : List Nod) ++ ((x1.drop 0).take x1.length)) ++ (([(⟨i2, s3, i4⟩ : Nod)].drop 0).take ([(⟨i2, s3, i4⟩ : Nod)].length))) true]⟩) (by kernel_rfl) ?_
        refine W_skip ?_
        refine thenS_n ?_
        refine W_seq ?_
        refine W_region ?_
        refine WO_step 6 [0, 1] [8, 9, 10] (True ∧ True) ⟨[(8, .one (.e (.sl 1 0 (((([] : List Nod) ++ ((x1.drop 0).take x1.length)) ++ (([(⟨i2, s3, i4⟩ : Nod)].drop 0).take ([(⟨i2, s3, i4⟩ : Nod)].length))).length)))), (9, I ((x1.length : Nat) : Int)), (10, B true)], [.row .nod x1 false, .row .nod ((([] : List Nod) ++ ((x1.drop 0).take x1.length)) ++ (([(⟨i2, s3, i4⟩ : Nod)].drop 0).take ([(⟨i2, s3, i4⟩ : Nod)].length))) true]⟩ (by kernel_rfl) ⟨trivial, trivial⟩ ?_
        refine WO_nil rfl ?_
        refine thenS_n ?_
        refine W_ret ?_
        cases h
        exact ⟨[0, 1], True, by kernel_rfl, trivial⟩

/- spec.apply -/
def spec_apply (n : Nat) (x1 : List Nod) (x2 : Edt) : Option ((List Nod) × Bool) :=
 bindO (spec_resolve n x1 x2.path) fun i53 =>
 iteO ((decide (x2.kind = 1)) && (decide (x2.value = 0)))
 (bindO (spec_DropNode n x1 i53) fun (x64, b65) =>
 some (x64, b65))
 (iteO (!decide (x2.kind = 0))
 (some (([] : List Nod), false))
 (iteO (decide (0 ≤ i53))
 (bindO (spec_SetValue n x1 i53 x2.value) fun (x76, b77) =>
 some (x76, b77))
 (bindO (spec_cut n x2.path) fun (s80, s81) =>
 bindO (spec_resolve n x1 s80) fun i83 =>
 bindO (spec_AddNode n x1 i83 s81 x2.value) fun (x85, i86, b87) =>
 bindO (iteO (!b87)
 (some true)
 (bindO (spec_resolve n x85 x2.path) fun i96 =>
 some (decide (i96 < 0)))) fun b93 =>
 iteO b93
 (some (([] : List Nod), false))
 (some (x85, true)))))

theorem spec_apply_ok (n : Nat) (x1 : List Nod) (x2 : Edt) (x51 : List Nod) (b52 : Bool) (h : spec_apply n x1 x2 = some (x51, b52)) : FOk EE 38 [.one (.e (.sl 0 0 x1.length)), AGG [cI x2.kind, cS x2.path, cI x2.value]] [.row .nod x1 false] (.tup [.e (.sl 1 0 x51.length), .e (cB b52)]) [.row .nod x1 false, .row .nod x51 true] := by
  unfold spec_apply at h
  refine FOk_of_W 69 1 Try.func38 rfl rfl (Nat.le_of_ble_eq_true rfl) rfl (fun w X θ => ?_)
  refine W_seq ?_
  refine W_region ?_
  refine WO_step 3 [0, 1] [0, 3] (True ∧ True) ⟨[(0, .one (.e (.sl 0 0 x1.length))), (3, .one (.e (.p 1 0)))], [.row .nod x1 false, .cells [cI x2.kind, cS x2.path, cI x2.value]]⟩ (by kernel_rfl) ⟨trivial, trivial⟩ ?_
  refine WO_nil rfl ?_
  refine thenS_n ?_
  refine W_seq ?_
  refine W_region ?_
  refine WO_step 3 [0, 1] [0, 3, 12, 14] (True ∧ True) ⟨[(0, .one (.e (.sl 0 0 x1.length))), (3, .one (.e (.p 1 0))), (12, .one (.e (.sl 0 0 x1.length))), (14, S x2.path)], [.row .nod x1 false, .cells [cI x2.kind, cS x2.path, cI x2.value]]⟩ (by kernel_rfl) ⟨trivial, trivial⟩ ?_
  refine bindO_e h (fun i53 hc54 h => ?_)
  refine WO_call [.ro 0] Try.f55 rfl rfl rfl (by kernel_rfl) Try.func55 rfl (by kernel_rfl) (spec_resolve_ok n x1 x2.path i53 hc54) (And.intro (And.intro rfl rfl) (trivial)) rfl ?_
  refine WO_step 1 [0, 1] [0, 3, 6] True ⟨[(0, .one (.e (.sl 0 0 x1.length))), (3, .one (.e (.p 1 0))), (6, I i53)], [.row .nod x1 false, .cells [cI x2.kind, cS x2.path, cI x2.value]]⟩ (by kernel_rfl) trivial ?_
  refine WO_nil rfl ?_
  refine thenS_n ?_
  refine W_seq ?_
  refine W_seq ?_
  refine W_region ?_
  refine WO_step 4 [0, 1] [0, 3, 6, 19] (True ∧ (True ∧ True)) ⟨[(0, .one (.e (.sl 0 0 x1.length))), (3, .one (.e (.p 1 0))), (6, I i53), (19, B (decide (x2.kind = 1)))], [.row .nod x1 false, .cells [cI x2.kind, cS x2.path, cI x2.value]]⟩ (by kernel_rfl) ⟨trivial, trivial, trivial⟩ ?_
  refine WO_thru ⟨[(0, .one (.e (.sl 0 0 x1.length))), (3, .one (.e (.p 1 0))), (6, I i53), (23, B ((decide (x2.kind = 1)) && (decide (x2.value = 0))))], [.row .nod x1 false, .cells [cI x2.kind, cS x2.path, cI x2.value]]⟩ ?_ ?_
  · refine WO_if 19 rfl (fun hb57 => ?_) (fun hb57 => ?_)
    · refine WO_step 4 [0, 1] [0, 3, 6, 23] (True ∧ (True ∧ True)) ⟨[(0, .one (.e (.sl 0 0 x1.length))), (3, .one (.e (.p 1 0))), (6, I i53), (23, B (decide (x2.value = 0)))], [.row .nod x1 false, .cells [cI x2.kind, cS x2.path, cI x2.value]]⟩ (by kernel_rfl) ⟨trivial, trivial, trivial⟩ ?_
      exact WO_nil rfl ⟨rfl, by first | rfl | (rw [hb57]; first | done | rfl)⟩
    · refine WO_step 4 [0, 1] [0, 3, 6, 23] True ⟨[(0, .one (.e (.sl 0 0 x1.length))), (3, .one (.e (.p 1 0))), (6, I i53), (23, B false)], [.row .nod x1 false, .cells [cI x2.kind, cS x2.path, cI x2.value]]⟩ (by kernel_rfl) trivial ?_
      exact WO_nil rfl ⟨rfl, by first | rfl | (rw [hb57]; first | done | rfl)⟩
  · refine thenS_n ?_
    refine iteO_e h (fun hb63 h => W_true rfl hb63 ?_) (fun hb63 h => W_false rfl hb63 ?_)
    · refine W_seq ?_
      refine W_region ?_
      refine WO_step 2 [0] [24, 25] True ⟨[(24, .one (.e (.sl 0 0 x1.length))), (25, I i53)], [.row .nod x1 false]⟩ (by kernel_rfl) trivial ?_
      refine bindO_e h (fun v67 hc66 h => ?_)
      obtain ⟨x64, b65⟩ := v67
      refine WO_call [.ro 0] Try.f66 rfl rfl rfl (by kernel_rfl) Try.func66 rfl (by kernel_rfl) (spec_DropNode_ok n x1 i53 x64 b65 hc66) (And.intro (And.intro rfl rfl) (trivial)) rfl ?_
      refine WO_step 4 [0, 1] [4, 5] True ⟨[(4, .one (.e (.sl 1 0 x64.length))), (5, B b65)], [.row .nod x1 false, .row .nod x64 true]⟩ (by kernel_rfl) trivial ?_
      refine WO_nil rfl ?_
      refine thenS_n ?_
      refine W_ret ?_
      refine thenS_r ?_
      cases h
      exact ⟨[0, 1], True, by kernel_rfl, trivial⟩
    · refine W_sub [0, 1] [0, 3, 6] (st' := ⟨[(0, .one (.e (.sl 0 0 x1.length))), (3, .one (.e (.p 1 0))), (6, I i53)], [.row .nod x1 false, .cells [cI x2.kind, cS x2.path, cI x2.value]]⟩) (by kernel_rfl) ?_
      refine W_skip ?_
      refine thenS_n ?_
      refine W_seq ?_
      refine W_seq ?_
      refine W_region ?_
      refine WO_step 3 [0, 1] [0, 3, 6, 31] (True ∧ (True ∧ True)) ⟨[(0, .one (.e (.sl 0 0 x1.length))), (3, .one (.e (.p 1 0))), (6, I i53), (31, B (!decide (x2.kind = 0)))], [.row .nod x1 false, .cells [cI x2.kind, cS x2.path, cI x2.value]]⟩ (by kernel_rfl) ⟨trivial, trivial, trivial⟩ ?_
      refine WO_nil rfl ?_
      refine thenS_n ?_
      refine iteO_e h (fun hb69 h => W_true rfl hb69 ?_) (fun hb69 h => W_false rfl hb69 ?_)
      · refine W_seq ?_
        refine W_region ?_
        refine WO_step 2 [0] [4, 5] True ⟨[(4, .one (.e (.nsl))), (5, B false)], [.row .nod x1 false]⟩ (by kernel_rfl) trivial ?_
        refine WO_nilrow 4 .nod rfl ?_
        refine WO_sub [0, 1] [4, 5] (st' := ⟨[(4, .one (.e (.sl 1 0 (([] : List Nod).length)))), (5, B false)], [.row .nod x1 false, .row .nod ([] : List Nod) true]⟩) (by kernel_rfl) ?_
        refine WO_nil rfl ?_
        refine thenS_n ?_
        refine W_ret ?_
        refine thenS_r ?_
        cases h
        exact ⟨[0, 1], True, by kernel_rfl, trivial⟩
      · refine W_sub [0, 1] [0, 3, 6] (st' := ⟨[(0, .one (.e (.sl 0 0 x1.length))), (3, .one (.e (.p 1 0))), (6, I i53)], [.row .nod x1 false, .cells [cI x2.kind, cS x2.path, cI x2.value]]⟩) (by kernel_rfl) ?_
        refine W_skip ?_
        refine thenS_n ?_
        refine W_seq ?_
        refine W_seq ?_
        refine W_region ?_
        refine WO_step 2 [0, 1] [0, 3, 6, 33] (True ∧ True) ⟨[(0, .one (.e (.sl 0 0 x1.length))), (3, .one (.e (.p 1 0))), (6, I i53), (33, B (decide (0 ≤ i53)))], [.row .nod x1 false, .cells [cI x2.kind, cS x2.path, cI x2.value]]⟩ (by kernel_rfl) ⟨trivial, trivial⟩ ?_
        refine WO_nil rfl ?_
        refine thenS_n ?_
        refine iteO_e h (fun hb75 h => W_true rfl hb75 ?_) (fun hb75 h => W_false rfl hb75 ?_)
        · refine W_seq ?_
          refine W_region ?_
          refine WO_step 4 [0] [34, 35, 37] (True ∧ True) ⟨[(34, .one (.e (.sl 0 0 x1.length))), (35, I i53), (37, I x2.value)], [.row .nod x1 false]⟩ (by kernel_rfl) ⟨trivial, trivial⟩ ?_
          refine bindO_e h (fun v79 hc78 h => ?_)
          obtain ⟨x76, b77⟩ := v79
          refine WO_call [.ro 0] Try.f67 rfl rfl rfl (by kernel_rfl) Try.func67 rfl (by kernel_rfl) (spec_SetValue_ok n x1 i53 x2.value x76 b77 hc78) (And.intro (And.intro rfl rfl) (trivial)) rfl ?_
          refine WO_step 4 [0, 1] [4, 5] True ⟨[(4, .one (.e (.sl 1 0 x76.length))), (5, B b77)], [.row .nod x1 false, .row .nod x76 true]⟩ (by kernel_rfl) trivial ?_
          refine WO_nil rfl ?_
          refine thenS_n ?_
          refine W_ret ?_
          refine thenS_r ?_
          cases h
          exact ⟨[0, 1], True, by kernel_rfl, trivial⟩
        · refine W_sub [0, 1] [0, 3] (st' := ⟨[(0, .one (.e (.sl 0 0 x1.length))), (3, .one (.e (.p 1 0)))], [.row .nod x1 false, .cells [cI x2.kind, cS x2.path, cI x2.value]]⟩) (by kernel_rfl) ?_
          refine W_skip ?_
          refine thenS_n ?_
          refine W_seq ?_
          refine W_region ?_
          refine WO_step 2 [0, 1] [0, 3, 43] (True ∧ True) ⟨[(0, .one (.e (.sl 0 0 x1.length))), (3, .one (.e (.p 1 0))), (43, S x2.path)], [.row .nod x1 false, .cells [cI x2.kind, cS x2.path, cI x2.value]]⟩ (by kernel_rfl) ⟨trivial, trivial⟩ ?_
          refine bindO_e h (fun v100 hc82 h => ?_)
          obtain ⟨s80, s81⟩ := v100
          refine WO_call [] Try.f68 rfl rfl rfl (by kernel_rfl) Try.func68 rfl (by kernel_rfl) (spec_cut_ok n x2.path s80 s81 hc82) (trivial) rfl ?_
          refine WO_step 5 [0, 1] [0, 3, 7, 8] True ⟨[(0, .one (.e (.sl 0 0 x1.length))), (3, .one (.e (.p 1 0))), (7, S s80), (8, S s81)], [.row .nod x1 false, .cells [cI x2.kind, cS x2.path, cI x2.value]]⟩ (by kernel_rfl) trivial ?_
          refine WO_nil rfl ?_
          refine thenS_n ?_
          refine W_seq ?_
          refine bindO_e h (fun i83 hc84 h => ?_)
          refine bindO_e h (fun v89 hc88 h => ?_)
          obtain ⟨x85, i86, b87⟩ := v89
          refine W_cut (Q' := fun (e : Exit) (s : St) => e = .normal ∧ s = ⟨[(3, .one (.e (.p 1 0))), (9, .one (.e (.sl 2 0 x85.length))), (11, B b87)], [.row .nod x1 false, .cells [cI x2.kind, cS x2.path, cI x2.value], .row .nod x85 true]⟩) ?_ ?_
          · refine W_draw [] false (by kernel_rfl) (by kernel_rfl) ?_
            refine WD_takeK [0, 1, 2, 4, 5, 6] [3, 48, 49, 50, 52, 54] [3, 48, 49, 50, 52, 54] (φ := (True ∧ True ∧ True)) (ls' := #[true, true, true, false, true, true, true, false, false, false, false, false, false, false, false]) (Ts' := [(3, .one (.e (.p 1 0))), (48, .one (.e (.sl 0 0 x1.length))), (49, .one (.e (.sl 0 0 x1.length))), (50, S s80), (52, S s81), (54, I x2.value)]) (st' := ⟨[(3, .one (.e (.p 1 0))), (48, .one (.e (.sl 0 0 x1.length))), (49, .one (.e (.sl 0 0 x1.length))), (50, S s80), (52, S s81), (54, I x2.value)], [.row .nod x1 false, .cells [cI x2.kind, cS x2.path, cI x2.value]]⟩) (n2 := 9) (by kernel_rfl) ⟨trivial, trivial, trivial⟩ rfl ?_
            refine WD_all [3] (n := 8) (by kernel_rfl) rfl ?_
            refine WM_call [.ro 0] Try.f55 rfl rfl (by kernel_rfl) Try.func55 rfl (by kernel_rfl) (spec_resolve_ok n x1 s80 i83 hc84) (And.intro (And.intro rfl rfl) (trivial)) rfl (And.intro rfl (And.intro (And.intro rfl rfl) (trivial))) ?_
            refine WD_all [7] (n := 7) (by kernel_rfl) rfl ?_
            refine WM_call [.ro 0] Try.f59 rfl rfl (by kernel_rfl) Try.func59 rfl (by kernel_rfl) (spec_AddNode_ok n x1 i83 s81 x2.value x85 i86 b87 hc88) (And.intro (And.intro rfl rfl) (trivial)) rfl (And.intro rfl (And.intro (And.intro rfl rfl) (trivial))) ?_
            refine WD_all [8] (n := 6) (by kernel_rfl) rfl ?_
            refine WM_op (φ := True) (v := .tup [.e (.sl 2 0 x85.length), .e (cI i86), .e (cB b87)]) (H' := [.row .nod x1 false, .cells [cI x2.kind, cS x2.path, cI x2.value], .row .nod x85 true]) rfl rfl (by kernel_rfl) trivial rfl (And.intro rfl (And.intro (And.intro rfl rfl) (trivial))) ?_
            refine WD_all [9, 10, 11] (n := 5) (by kernel_rfl) rfl (And.intro ?_ (And.intro ?_ (?_)))
            · refine WM_op (φ := True) (v := .one (.e (.sl 2 0 x85.length))) (H' := [.row .nod x1 false, .cells [cI x2.kind, cS x2.path, cI x2.value], .row .nod x85 true]) rfl rfl (by kernel_rfl) trivial rfl (And.intro rfl (And.intro (And.intro rfl rfl) (trivial))) ?_
              refine WD_all [10, 11, 12] (n := 4) (by kernel_rfl) rfl (And.intro ?_ (And.intro ?_ (?_)))
              · refine WM_op (φ := True) (v := I i86) (H' := [.row .nod x1 false, .cells [cI x2.kind, cS x2.path, cI x2.value], .row .nod x85 true]) rfl rfl (by kernel_rfl) trivial rfl (And.intro rfl (And.intro (And.intro rfl rfl) (trivial))) ?_
                refine WD_all [11, 12] (n := 3) (by kernel_rfl) rfl (And.intro ?_ (?_))
                · refine WM_op (φ := True) (v := B b87) (H' := [.row .nod x1 false, .cells [cI x2.kind, cS x2.path, cI x2.value], .row .nod x85 true]) rfl rfl (by kernel_rfl) trivial rfl (And.intro rfl (And.intro (And.intro rfl rfl) (trivial))) ?_
                  refine WD_all [12] (n := 2) (by kernel_rfl) rfl ?_
                  refine WM_op (φ := True) (v := .one (.e (.sl 2 0 x85.length))) (H' := [.row .nod x1 false, .cells [cI x2.kind, cS x2.path, cI x2.value], .row .nod x85 true]) rfl rfl (by kernel_rfl) trivial rfl (And.intro rfl (And.intro (And.intro rfl rfl) (trivial))) ?_
                  refine WD_takeK [13, 14] [3, 11] [3, 9, 11] (φ := True) (ls' := #[true, true, true, true, true, true, true, true, true, true, true, true, true, true, true]) (Ts' := [(3, .one (.e (.p 1 0))), (11, B b87)]) (st' := ⟨[(3, .one (.e (.p 1 0))), (9, .one (.e (.sl 2 0 x85.length))), (11, B b87)], [.row .nod x1 false, .cells [cI x2.kind, cS x2.path, cI x2.value], .row .nod x85 true]⟩) (n2 := 0) (by kernel_rfl) trivial rfl ?_
                  exact WD_done [0, 1, 2] [3, 9, 11] (st' := ⟨[(3, .one (.e (.p 1 0))), (9, .one (.e (.sl 2 0 x85.length))), (11, B b87)], [.row .nod x1 false, .cells [cI x2.kind, cS x2.path, cI x2.value], .row .nod x85 true]⟩) (by kernel_rfl) (by kernel_rfl) (And.intro rfl rfl)
                · refine WM_op (φ := True) (v := .one (.e (.sl 2 0 x85.length))) (H' := [.row .nod x1 false, .cells [cI x2.kind, cS x2.path, cI x2.value], .row .nod x85 true]) rfl rfl (by kernel_rfl) trivial rfl (And.intro rfl (And.intro (And.intro rfl rfl) (trivial))) ?_
                  refine WD_takeK [13] [3] [3, 9, 47] (φ := True) (ls' := #[true, true, true, true, true, true, true, true, true, true, true, false, true, true, false]) (Ts' := [(3, .one (.e (.p 1 0)))]) (st' := ⟨[(3, .one (.e (.p 1 0))), (9, .one (.e (.sl 2 0 x85.length))), (47, .tup [.e (.sl 2 0 x85.length), .e (cI i86), .e (cB b87)])], [.row .nod x1 false, .cells [cI x2.kind, cS x2.path, cI x2.value], .row .nod x85 true]⟩) (n2 := 2) (by kernel_rfl) trivial rfl ?_
                  refine WD_all [11] (n := 1) (by kernel_rfl) rfl ?_
                  refine WM_op (φ := True) (v := B b87) (H' := [.row .nod x1 false, .cells [cI x2.kind, cS x2.path, cI x2.value], .row .nod x85 true]) rfl rfl (by kernel_rfl) trivial rfl (And.intro rfl (And.intro (And.intro rfl rfl) (trivial))) ?_
                  refine WD_takeK [14] [3, 11] [3, 9, 11] (φ := True) (ls' := #[true, true, true, true, true, true, true, true, true, true, true, true, true, true, true]) (Ts' := [(3, .one (.e (.p 1 0))), (11, B b87)]) (st' := ⟨[(3, .one (.e (.p 1 0))), (9, .one (.e (.sl 2 0 x85.length))), (11, B b87)], [.row .nod x1 false, .cells [cI x2.kind, cS x2.path, cI x2.value], .row .nod x85 true]⟩) (n2 := 0) (by kernel_rfl) trivial rfl ?_
                  exact WD_done [0, 1, 2] [3, 9, 11] (st' := ⟨[(3, .one (.e (.p 1 0))), (9, .one (.e (.sl 2 0 x85.length))), (11, B b87)], [.row .nod x1 false, .cells [cI x2.kind, cS x2.path, cI x2.value], .row .nod x85 true]⟩) (by kernel_rfl) (by kernel_rfl) (And.intro rfl rfl)
              · refine WM_op (φ := True) (v := B b87) (H' := [.row .nod x1 false, .cells [cI x2.kind, cS x2.path, cI x2.value], .row .nod x85 true]) rfl rfl (by kernel_rfl) trivial rfl (And.intro rfl (And.intro (And.intro rfl rfl) (trivial))) ?_
                refine WD_all [10, 12] (n := 3) (by kernel_rfl) rfl (And.intro ?_ (?_))
                · refine WM_op (φ := True) (v := I i86) (H' := [.row .nod x1 false, .cells [cI x2.kind, cS x2.path, cI x2.value], .row .nod x85 true]) rfl rfl (by kernel_rfl) trivial rfl (And.intro rfl (And.intro (And.intro rfl rfl) (trivial))) ?_
                  refine WD_all [12] (n := 2) (by kernel_rfl) rfl ?_
                  refine WM_op (φ := True) (v := .one (.e (.sl 2 0 x85.length))) (H' := [.row .nod x1 false, .cells [cI x2.kind, cS x2.path, cI x2.value], .row .nod x85 true]) rfl rfl (by kernel_rfl) trivial rfl (And.intro rfl (And.intro (And.intro rfl rfl) (trivial))) ?_
                  refine WD_takeK [13, 14] [3, 11] [3, 9, 11] (φ := True) (ls' := #[true, true, true, true, true, true, true, true, true, true, true, true, true, true, true]) (Ts' := [(3, .one (.e (.p 1 0))), (11, B b87)]) (st' := ⟨[(3, .one (.e (.p 1 0))), (9, .one (.e (.sl 2 0 x85.length))), (11, B b87)], [.row .nod x1 false, .cells [cI x2.kind, cS x2.path, cI x2.value], .row .nod x85 true]⟩) (n2 := 0) (by kernel_rfl) trivial rfl ?_
                  exact WD_done [0, 1, 2] [3, 9, 11] (st' := ⟨[(3, .one (.e (.p 1 0))), (9, .one (.e (.sl 2 0 x85.length))), (11, B b87)], [.row .nod x1 false, .cells [cI x2.kind, cS x2.path, cI x2.value], .row .nod x85 true]⟩) (by kernel_rfl) (by kernel_rfl) (And.intro rfl rfl)
                · refine WM_op (φ := True) (v := .one (.e (.sl 2 0 x85.length))) (H' := [.row .nod x1 false, .cells [cI x2.kind, cS x2.path, cI x2.value], .row .nod x85 true]) rfl rfl (by kernel_rfl) trivial rfl (And.intro rfl (And.intro (And.intro rfl rfl) (trivial))) ?_
                  refine WD_all [10] (n := 2) (by kernel_rfl) rfl ?_
                  refine WM_op (φ := True) (v := I i86) (H' := [.row .nod x1 false, .cells [cI x2.kind, cS x2.path, cI x2.value], .row .nod x85 true]) rfl rfl (by kernel_rfl) trivial rfl (And.intro rfl (And.intro (And.intro rfl rfl) (trivial))) ?_
                  refine WD_takeK [13, 14] [3, 11] [3, 9, 11] (φ := True) (ls' := #[true, true, true, true, true, true, true, true, true, true, true, true, true, true, true]) (Ts' := [(3, .one (.e (.p 1 0))), (11, B b87)]) (st' := ⟨[(3, .one (.e (.p 1 0))), (9, .one (.e (.sl 2 0 x85.length))), (11, B b87)], [.row .nod x1 false, .cells [cI x2.kind, cS x2.path, cI x2.value], .row .nod x85 true]⟩) (n2 := 0) (by kernel_rfl) trivial rfl ?_
                  exact WD_done [0, 1, 2] [3, 9, 11] (st' := ⟨[(3, .one (.e (.p 1 0))), (9, .one (.e (.sl 2 0 x85.length))), (11, B b87)], [.row .nod x1 false, .cells [cI x2.kind, cS x2.path, cI x2.value], .row .nod x85 true]⟩) (by kernel_rfl) (by kernel_rfl) (And.intro rfl rfl)
              · refine WM_op (φ := True) (v := .one (.e (.sl 2 0 x85.length))) (H' := [.row .nod x1 false, .cells [cI x2.kind, cS x2.path, cI x2.value], .row .nod x85 true]) rfl rfl (by kernel_rfl) trivial rfl (And.intro rfl (And.intro (And.intro rfl rfl) (trivial))) ?_
                refine WD_all [10, 11] (n := 3) (by kernel_rfl) rfl (And.intro ?_ (?_))
                · refine WM_op (φ := True) (v := I i86) (H' := [.row .nod x1 false, .cells [cI x2.kind, cS x2.path, cI x2.value], .row .nod x85 true]) rfl rfl (by kernel_rfl) trivial rfl (And.intro rfl (And.intro (And.intro rfl rfl) (trivial))) ?_
                  refine WD_takeK [13] [3] [3, 9, 47] (φ := True) (ls' := #[true, true, true, true, true, true, true, true, true, true, true, false, true, true, false]) (Ts' := [(3, .one (.e (.p 1 0)))]) (st' := ⟨[(3, .one (.e (.p 1 0))), (9, .one (.e (.sl 2 0 x85.length))), (47, .tup [.e (.sl 2 0 x85.length), .e (cI i86), .e (cB b87)])], [.row .nod x1 false, .cells [cI x2.kind, cS x2.path, cI x2.value], .row .nod x85 true]⟩) (n2 := 2) (by kernel_rfl) trivial rfl ?_
                  refine WD_all [11] (n := 1) (by kernel_rfl) rfl ?_
                  refine WM_op (φ := True) (v := B b87) (H' := [.row .nod x1 false, .cells [cI x2.kind, cS x2.path, cI x2.value], .row .nod x85 true]) rfl rfl (by kernel_rfl) trivial rfl (And.intro rfl (And.intro (And.intro rfl rfl) (trivial))) ?_
                  refine WD_takeK [14] [3, 11] [3, 9, 11] (φ := True) (ls' := #[true, true, true, true, true, true, true, true, true, true, true, true, true, true, true]) (Ts' := [(3, .one (.e (.p 1 0))), (11, B b87)]) (st' := ⟨[(3, .one (.e (.p 1 0))), (9, .one (.e (.sl 2 0 x85.length))), (11, B b87)], [.row .nod x1 false, .cells [cI x2.kind, cS x2.path, cI x2.value], .row .nod x85 true]⟩) (n2 := 0) (by kernel_rfl) trivial rfl ?_
                  exact WD_done [0, 1, 2] [3, 9, 11] (st' := ⟨[(3, .one (.e (.p 1 0))), (9, .one (.e (.sl 2 0 x85.length))), (11, B b87)], [.row .nod x1 false, .cells [cI x2.kind, cS x2.path, cI x2.value], .row .nod x85 true]⟩) (by kernel_rfl) (by kernel_rfl) (And.intro rfl rfl)
                · refine WM_op (φ := True) (v := B b87) (H' := [.row .nod x1 false, .cells [cI x2.kind, cS x2.path, cI x2.value], .row .nod x85 true]) rfl rfl (by kernel_rfl) trivial rfl (And.intro rfl (And.intro (And.intro rfl rfl) (trivial))) ?_
                  refine WD_all [10] (n := 2) (by kernel_rfl) rfl ?_
                  refine WM_op (φ := True) (v := I i86) (H' := [.row .nod x1 false, .cells [cI x2.kind, cS x2.path, cI x2.value], .row .nod x85 true]) rfl rfl (by kernel_rfl) trivial rfl (And.intro rfl (And.intro (And.intro rfl rfl) (trivial))) ?_
                  refine WD_takeK [13, 14] [3, 11] [3, 9, 11] (φ := True) (ls' := #[true, true, true, true, true, true, true, true, true, true, true, true, true, true, true]) (Ts' := [(3, .one (.e (.p 1 0))), (11, B b87)]) (st' := ⟨[(3, .one (.e (.p 1 0))), (9, .one (.e (.sl 2 0 x85.length))), (11, B b87)], [.row .nod x1 false, .cells [cI x2.kind, cS x2.path, cI x2.value], .row .nod x85 true]⟩) (n2 := 0) (by kernel_rfl) trivial rfl ?_
                  exact WD_done [0, 1, 2] [3, 9, 11] (st' := ⟨[(3, .one (.e (.p 1 0))), (9, .one (.e (.sl 2 0 x85.length))), (11, B b87)], [.row .nod x1 false, .cells [cI x2.kind, cS x2.path, cI x2.value], .row .nod x85 true]⟩) (by kernel_rfl) (by kernel_rfl) (And.intro rfl rfl)
            · refine WM_op (φ := True) (v := I i86) (H' := [.row .nod x1 false, .cells [cI x2.kind, cS x2.path, cI x2.value], .row .nod x85 true]) rfl rfl (by kernel_rfl) trivial rfl (And.intro rfl (And.intro (And.intro rfl rfl) (trivial))) ?_
              refine WD_all [9, 11] (n := 4) (by kernel_rfl) rfl (And.intro ?_ (?_))
              · refine WM_op (φ := True) (v := .one (.e (.sl 2 0 x85.length))) (H' := [.row .nod x1 false, .cells [cI x2.kind, cS x2.path, cI x2.value], .row .nod x85 true]) rfl rfl (by kernel_rfl) trivial rfl (And.intro rfl (And.intro (And.intro rfl rfl) (trivial))) ?_
                refine WD_all [11, 12] (n := 3) (by kernel_rfl) rfl (And.intro ?_ (?_))
                · refine WM_op (φ := True) (v := B b87) (H' := [.row .nod x1 false, .cells [cI x2.kind, cS x2.path, cI x2.value], .row .nod x85 true]) rfl rfl (by kernel_rfl) trivial rfl (And.intro rfl (And.intro (And.intro rfl rfl) (trivial))) ?_
                  refine WD_all [12] (n := 2) (by kernel_rfl) rfl ?_
                  refine WM_op (φ := True) (v := .one (.e (.sl 2 0 x85.length))) (H' := [.row .nod x1 false, .cells [cI x2.kind, cS x2.path, cI x2.value], .row .nod x85 true]) rfl rfl (by kernel_rfl) trivial rfl (And.intro rfl (And.intro (And.intro rfl rfl) (trivial))) ?_
                  refine WD_takeK [13, 14] [3, 11] [3, 9, 11] (φ := True) (ls' := #[true, true, true, true, true, true, true, true, true, true, true, true, true, true, true]) (Ts' := [(3, .one (.e (.p 1 0))), (11, B b87)]) (st' := ⟨[(3, .one (.e (.p 1 0))), (9, .one (.e (.sl 2 0 x85.length))), (11, B b87)], [.row .nod x1 false, .cells [cI x2.kind, cS x2.path, cI x2.value], .row .nod x85 true]⟩) (n2 := 0) (by kernel_rfl) trivial rfl ?_
                  exact WD_done [0, 1, 2] [3, 9, 11] (st' := ⟨[(3, .one (.e (.p 1 0))), (9, .one (.e (.sl 2 0 x85.length))), (11, B b87)], [.row .nod x1 false, .cells [cI x2.kind, cS x2.path, cI x2.value], .row .nod x85 true]⟩) (by kernel_rfl) (by kernel_rfl) (And.intro rfl rfl)
                · refine WM_op (φ := True) (v := .one (.e (.sl 2 0 x85.length))) (H' := [.row .nod x1 false, .cells [cI x2.kind, cS x2.path, cI x2.value], .row .nod x85 true]) rfl rfl (by kernel_rfl) trivial rfl (And.intro rfl (And.intro (And.intro rfl rfl) (trivial))) ?_
                  refine WD_takeK [13] [3] [3, 9, 47] (φ := True) (ls' := #[true, true, true, true, true, true, true, true, true, true, true, false, true, true, false]) (Ts' := [(3, .one (.e (.p 1 0)))]) (st' := ⟨[(3, .one (.e (.p 1 0))), (9, .one (.e (.sl 2 0 x85.length))), (47, .tup [.e (.sl 2 0 x85.length), .e (cI i86), .e (cB b87)])], [.row .nod x1 false, .cells [cI x2.kind, cS x2.path, cI x2.value], .row .nod x85 true]⟩) (n2 := 2) (by kernel_rfl) trivial rfl ?_
                  refine WD_all [11] (n := 1) (by kernel_rfl) rfl ?_
                  refine WM_op (φ := True) (v := B b87) (H' := [.row .nod x1 false, .cells [cI x2.kind, cS x2.path, cI x2.value], .row .nod x85 true]) rfl rfl (by kernel_rfl) trivial rfl (And.intro rfl (And.intro (And.intro rfl rfl) (trivial))) ?_
                  refine WD_takeK [14] [3, 11] [3, 9, 11] (φ := True) (ls' := #[true, true, true, true, true, true, true, true, true, true, true, true, true, true, true]) (Ts' := [(3, .one (.e (.p 1 0))), (11, B b87)]) (st' := ⟨[(3, .one (.e (.p 1 0))), (9, .one (.e (.sl 2 0 x85.length))), (11, B b87)], [.row .nod x1 false, .cells [cI x2.kind, cS x2.path, cI x2.value], .row .nod x85 true]⟩) (n2 := 0) (by kernel_rfl) trivial rfl ?_
                  exact WD_done [0, 1, 2] [3, 9, 11] (st' := ⟨[(3, .one (.e (.p 1 0))), (9, .one (.e (.sl 2 0 x85.length))), (11, B b87)], [.row .nod x1 false, .cells [cI x2.kind, cS x2.path, cI x2.value], .row .nod x85 true]⟩) (by kernel_rfl) (by kernel_rfl) (And.intro rfl rfl)
              · refine WM_op (φ := True) (v := B b87) (H' := [.row .nod x1 false, .cells [cI x2.kind, cS x2.path, cI x2.value], .row .nod x85 true]) rfl rfl (by kernel_rfl) trivial rfl (And.intro rfl (And.intro (And.intro rfl rfl) (trivial))) ?_
                refine WD_all [9] (n := 3) (by kernel_rfl) rfl ?_
                refine WM_op (φ := True) (v := .one (.e (.sl 2 0 x85.length))) (H' := [.row .nod x1 false, .cells [cI x2.kind, cS x2.path, cI x2.value], .row .nod x85 true]) rfl rfl (by kernel_rfl) trivial rfl (And.intro rfl (And.intro (And.intro rfl rfl) (trivial))) ?_
                refine WD_all [12] (n := 2) (by kernel_rfl) rfl ?_
                refine WM_op (φ := True) (v := .one (.e (.sl 2 0 x85.length))) (H' := [.row .nod x1 false, .cells [cI x2.kind, cS x2.path, cI x2.value], .row .nod x85 true]) rfl rfl (by kernel_rfl) trivial rfl (And.intro rfl (And.intro (And.intro rfl rfl) (trivial))) ?_
                refine WD_takeK [13, 14] [3, 11] [3, 9, 11] (φ := True) (ls' := #[true, true, true, true, true, true, true, true, true, true, true, true, true, true, true]) (Ts' := [(3, .one (.e (.p 1 0))), (11, B b87)]) (st' := ⟨[(3, .one (.e (.p 1 0))), (9, .one (.e (.sl 2 0 x85.length))), (11, B b87)], [.row .nod x1 false, .cells [cI x2.kind, cS x2.path, cI x2.value], .row .nod x85 true]⟩) (n2 := 0) (by kernel_rfl) trivial rfl ?_
                exact WD_done [0, 1, 2] [3, 9, 11] (st' := ⟨[(3, .one (.e (.p 1 0))), (9, .one (.e (.sl 2 0 x85.length))), (11, B b87)], [.row .nod x1 false, .cells [cI x2.kind, cS x2.path, cI x2.value], .row .nod x85 true]⟩) (by kernel_rfl) (by kernel_rfl) (And.intro rfl rfl)
            · refine WM_op (φ := True) (v := B b87) (H' := [.row .nod x1 false, .cells [cI x2.kind, cS x2.path, cI x2.value], .row .nod x85 true]) rfl rfl (by kernel_rfl) trivial rfl (And.intro rfl (And.intro (And.intro rfl rfl) (trivial))) ?_
              refine WD_all [9, 10] (n := 4) (by kernel_rfl) rfl (And.intro ?_ (?_))
              · refine WM_op (φ := True) (v := .one (.e (.sl 2 0 x85.length))) (H' := [.row .nod x1 false, .cells [cI x2.kind, cS x2.path, cI x2.value], .row .nod x85 true]) rfl rfl (by kernel_rfl) trivial rfl (And.intro rfl (And.intro (And.intro rfl rfl) (trivial))) ?_
                refine WD_all [10, 12] (n := 3) (by kernel_rfl) rfl (And.intro ?_ (?_))
                · refine WM_op (φ := True) (v := I i86) (H' := [.row .nod x1 false, .cells [cI x2.kind, cS x2.path, cI x2.value], .row .nod x85 true]) rfl rfl (by kernel_rfl) trivial rfl (And.intro rfl (And.intro (And.intro rfl rfl) (trivial))) ?_
                  refine WD_all [12] (n := 2) (by kernel_rfl) rfl ?_
                  refine WM_op (φ := True) (v := .one (.e (.sl 2 0 x85.length))) (H' := [.row .nod x1 false, .cells [cI x2.kind, cS x2.path, cI x2.value], .row .nod x85 true]) rfl rfl (by kernel_rfl) trivial rfl (And.intro rfl (And.intro (And.intro rfl rfl) (trivial))) ?_
                  refine WD_takeK [13, 14] [3, 11] [3, 9, 11] (φ := True) (ls' := #[true, true, true, true, true, true, true, true, true, true, true, true, true, true, true]) (Ts' := [(3, .one (.e (.p 1 0))), (11, B b87)]) (st' := ⟨[(3, .one (.e (.p 1 0))), (9, .one (.e (.sl 2 0 x85.length))), (11, B b87)], [.row .nod x1 false, .cells [cI x2.kind, cS x2.path, cI x2.value], .row .nod x85 true]⟩) (n2 := 0) (by kernel_rfl) trivial rfl ?_
                  exact WD_done [0, 1, 2] [3, 9, 11] (st' := ⟨[(3, .one (.e (.p 1 0))), (9, .one (.e (.sl 2 0 x85.length))), (11, B b87)], [.row .nod x1 false, .cells [cI x2.kind, cS x2.path, cI x2.value], .row .nod x85 true]⟩) (by kernel_rfl) (by kernel_rfl) (And.intro rfl rfl)
                · refine WM_op (φ := True) (v := .one (.e (.sl 2 0 x85.length))) (H' := [.row .nod x1 false, .cells [cI x2.kind, cS x2.path, cI x2.value], .row .nod x85 true]) rfl rfl (by kernel_rfl) trivial rfl (And.intro rfl (And.intro (And.intro rfl rfl) (trivial))) ?_
                  refine WD_all [10] (n := 2) (by kernel_rfl) rfl ?_
                  refine WM_op (φ := True) (v := I i86) (H' := [.row .nod x1 false, .cells [cI x2.kind, cS x2.path, cI x2.value], .row .nod x85 true]) rfl rfl (by kernel_rfl) trivial rfl (And.intro rfl (And.intro (And.intro rfl rfl) (trivial))) ?_
                  refine WD_takeK [13, 14] [3, 11] [3, 9, 11] (φ := True) (ls' := #[true, true, true, true, true, true, true, true, true, true, true, true, true, true, true]) (Ts' := [(3, .one (.e (.p 1 0))), (11, B b87)]) (st' := ⟨[(3, .one (.e (.p 1 0))), (9, .one (.e (.sl 2 0 x85.length))), (11, B b87)], [.row .nod x1 false, .cells [cI x2.kind, cS x2.path, cI x2.value], .row .nod x85 true]⟩) (n2 := 0) (by kernel_rfl) trivial rfl ?_
                  exact WD_done [0, 1, 2] [3, 9, 11] (st' := ⟨[(3, .one (.e (.p 1 0))), (9, .one (.e (.sl 2 0 x85.length))), (11, B b87)], [.row .nod x1 false, .cells [cI x2.kind, cS x2.path, cI x2.value], .row .nod x85 true]⟩) (by kernel_rfl) (by kernel_rfl) (And.intro rfl rfl)
              · refine WM_op (φ := True) (v := I i86) (H' := [.row .nod x1 false, .cells [cI x2.kind, cS x2.path, cI x2.value], .row .nod x85 true]) rfl rfl (by kernel_rfl) trivial rfl (And.intro rfl (And.intro (And.intro rfl rfl) (trivial))) ?_
                refine WD_all [9] (n := 3) (by kernel_rfl) rfl ?_
                refine WM_op (φ := True) (v := .one (.e (.sl 2 0 x85.length))) (H' := [.row .nod x1 false, .cells [cI x2.kind, cS x2.path, cI x2.value], .row .nod x85 true]) rfl rfl (by kernel_rfl) trivial rfl (And.intro rfl (And.intro (And.intro rfl rfl) (trivial))) ?_
                refine WD_all [12] (n := 2) (by kernel_rfl) rfl ?_
                refine WM_op (φ := True) (v := .one (.e (.sl 2 0 x85.length))) (H' := [.row .nod x1 false, .cells [cI x2.kind, cS x2.path, cI x2.value], .row .nod x85 true]) rfl rfl (by kernel_rfl) trivial rfl (And.intro rfl (And.intro (And.intro rfl rfl) (trivial))) ?_
                refine WD_takeK [13, 14] [3, 11] [3, 9, 11] (φ := True) (ls' := #[true, true, true, true, true, true, true, true, true, true, true, true, true, true, true]) (Ts' := [(3, .one (.e (.p 1 0))), (11, B b87)]) (st' := ⟨[(3, .one (.e (.p 1 0))), (9, .one (.e (.sl 2 0 x85.length))), (11, B b87)], [.row .nod x1 false, .cells [cI x2.kind, cS x2.path, cI x2.value], .row .nod x85 true]⟩) (n2 := 0) (by kernel_rfl) trivial rfl ?_
                exact WD_done [0, 1, 2] [3, 9, 11] (st' := ⟨[(3, .one (.e (.p 1 0))), (9, .one (.e (.sl 2 0 x85.length))), (11, B b87)], [.row .nod x1 false, .cells [cI x2.kind, cS x2.path, cI x2.value], .row .nod x85 true]⟩) (by kernel_rfl) (by kernel_rfl) (And.intro rfl rfl)
          · rintro _ _ ⟨rfl, rfl⟩
            refine thenS_n ?_
            refine W_seq ?_
            refine W_seq ?_
            refine W_region ?_
            refine WO_step 3 [0, 1, 2] [3, 9, 61] True ⟨[(3, .one (.e (.p 1 0))), (9, .one (.e (.sl 2 0 x85.length))), (61, B (!b87))], [.row .nod x1 false, .cells [cI x2.kind, cS x2.path, cI x2.value], .row .nod x85 true]⟩ (by kernel_rfl) trivial ?_
            refine bindO_e h (fun b93 hv94 h => ?_)
            refine WO_thru ⟨[(9, .one (.e (.sl 1 0 x85.length))), (67, B b93)], [.row .nod x1 false, .row .nod x85 true]⟩ ?_ ?_
            · refine iteO_e hv94 (fun hb95 hv94 => WO_known 61 true rfl hb95 ?_) (fun hb95 hv94 => WO_known 61 false rfl hb95 ?_)
              · refine WO_step 6 [0, 2] [9, 67] True ⟨[(9, .one (.e (.sl 1 0 x85.length))), (67, B true)], [.row .nod x1 false, .row .nod x85 true]⟩ (by kernel_rfl) trivial ?_
                cases hv94
                exact WO_nil rfl ⟨rfl, rfl⟩
              · refine WO_step 3 [0, 2] [9, 61, 62, 64] (True ∧ True) ⟨[(9, .one (.e (.sl 1 0 x85.length))), (61, B false), (62, .one (.e (.sl 1 0 x85.length))), (64, S x2.path)], [.row .nod x1 false, .row .nod x85 true]⟩ (by kernel_rfl) ⟨trivial, trivial⟩ ?_
                refine bindO_e hv94 (fun i96 hc97 hv94 => ?_)
                refine WO_call [.ro 1] Try.f55 rfl rfl rfl (by kernel_rfl) Try.func55 rfl (by kernel_rfl) (spec_resolve_ok n x85 x2.path i96 hc97) (And.intro (And.intro rfl rfl) (trivial)) rfl ?_
                refine WO_step 2 [0, 1] [9, 67] (True ∧ True) ⟨[(9, .one (.e (.sl 1 0 x85.length))), (67, B (decide (i96 < 0)))], [.row .nod x1 false, .row .nod x85 true]⟩ (by kernel_rfl) ⟨trivial, trivial⟩ ?_
                cases hv94
                exact WO_nil rfl ⟨rfl, rfl⟩
            · refine thenS_n ?_
              refine iteO_e h (fun hb99 h => W_true rfl hb99 ?_) (fun hb99 h => W_false rfl hb99 ?_)
              · refine W_seq ?_
                refine W_region ?_
                refine WO_step 2 [0] [4, 5] True ⟨[(4, .one (.e (.nsl))), (5, B false)], [.row .nod x1 false]⟩ (by kernel_rfl) trivial ?_
                refine WO_nilrow 4 .nod rfl ?_
                refine WO_sub [0, 1] [4, 5] (st' := ⟨[(4, .one (.e (.sl 1 0 (([] : List Nod).length)))), (5, B false)], [.row .nod x1 false, .row .nod ([] : List Nod) true]⟩) (by kernel_rfl) ?_
                refine WO_nil rfl ?_
                refine thenS_n ?_
                refine W_ret ?_
                refine thenS_r ?_
                cases h
                exact ⟨[0, 1], True, by kernel_rfl, trivial⟩
              · refine W_sub [0, 1] [9] (st' := ⟨[(9, .one (.e (.sl 1 0 x85.length)))], [.row .nod x1 false, .row .nod x85 true]⟩) (by kernel_rfl) ?_
                refine W_skip ?_
                refine thenS_n ?_
                refine W_seq ?_
                refine W_region ?_
                refine WO_step 3 [0, 1] [4, 5] True ⟨[(4, .one (.e (.sl 1 0 x85.length))), (5, B true)], [.row .nod x1 false, .row .nod x85 true]⟩ (by kernel_rfl) trivial ?_
                refine WO_nil rfl ?_
                refine thenS_n ?_
                refine W_ret ?_
                cases h
                exact ⟨[0, 1], True, by kernel_rfl, trivial⟩

/- spec.ApplyEdits -/
def spec_ApplyEdits_L1 (x2 : List Edt) (x1 : List Nod) : Nat → (List Nod) → Int → Option ((Unit) ⊕ ((List Nod)))
| 0, _, _ => none
| n + 1, x132, i133 =>
 iteO (decide (i133 < ((x2.length : Nat) : Int)))
 (guardO (0 ≤ i133 ∧ i133 < ((x2.length : Nat) : Int)) <|
 bindO (spec_apply n x132 (x2.getD i133.toNat dedt)) fun (x164, b165) =>
 iteO (!b165)
 (some (.inl ()))
 (spec_ApplyEdits_L1 x2 x1 n x164 (w64 (i133 + 1))))
 (some (.inr x132))

theorem spec_ApplyEdits_L1_ok (w : World) (X : Nat → Prop) (θ : List Loc) (x2 : List Edt) (x1 : List Nod) (v : (Unit) ⊕ ((List Nod))) : ∀ (n : Nat) (x132 : List Nod) (i133 : Int), spec_ApplyEdits_L1 x2 x1 n x132 i133 = some v → WL EE ⟨w, X, θ, 38, 2⟩ (subC [1, 1, 0, 1, 4, 4] (bodyC Try.f11)) (fun (e : Exit) (s : St) => (match v with | (.inl _) => e = .ret ∧ s = ⟨[(4, .one (.e (.sl 2 0 (([] : List Nod).length)))), (5, B false)], [.row .nod x1 false, .row .edt x2 false, .row .nod ([] : List Nod) true]⟩ | (.inr x152) => e = .exit 0 ∧ s = ⟨[(0, .one (.e (.sl 2 0 x152.length)))], [.row .nod x1 false, .row .edt x2 false, .row .nod x152 true]⟩ : Prop)) ⟨[(0, .one (.e (.sl 2 0 x132.length))), (1, .one (.e (.sl 1 0 x2.length))), (6, I i133)], [.row .nod x1 false, .row .edt x2 false, .row .nod x132 true]⟩ := by
  intro n
  induction n with
  | zero => intro _ _ h; exact none_e h
  | succ n ih =>
    intro x132 i133 h
    rw [spec_ApplyEdits_L1] at h
    refine WL_round ?_
    refine W_seq ?_
    refine W_seq ?_
    refine W_region ?_
    refine WO_step 4 [0, 1, 2] [0, 1, 6, 20] (True ∧ (True ∧ True)) ⟨[(0, .one (.e (.sl 2 0 x132.length))), (1, .one (.e (.sl 1 0 x2.length))), (6, I i133), (20, B (decide (i133 < ((x2.length : Nat) : Int))))], [.row .nod x1 false, .row .edt x2 false, .row .nod x132 true]⟩ (by kernel_rfl) ⟨trivial, trivial, trivial⟩ ?_
    refine WO_nil rfl ?_
    refine thenS_n ?_
    refine iteO_e h (fun hb155 h => W_true rfl hb155 ?_) (fun hb155 h => W_false rfl hb155 ?_)
    · refine W_sub [0, 1, 2] [0, 1, 6] (st' := ⟨[(0, .one (.e (.sl 2 0 x132.length))), (1, .one (.e (.sl 1 0 x2.length))), (6, I i133)], [.row .nod x1 false, .row .edt x2 false, .row .nod x132 true]⟩) (by kernel_rfl) ?_
      refine W_skip ?_
      refine thenS_n ?_
      refine W_seq ?_
      refine W_block ?_
      refine W_seq ?_
      refine W_region ?_
      refine guardO_e h (fun hg163 h => ?_)
      refine WO_step 5 [0, 1, 2] [1, 6, 24, 28] ((0 ≤ i133 ∧ i133 < ((x2.length : Nat) : Int)) ∧ (True ∧ True)) ⟨[(1, .one (.e (.sl 1 0 x2.length))), (6, I i133), (24, .one (.e (.sl 2 0 x132.length))), (28, AGG [cI ((x2.getD i133.toNat dedt).kind), cS ((x2.getD i133.toNat dedt).path), cI ((x2.getD i133.toNat dedt).value)])], [.row .nod x1 false, .row .edt x2 false, .row .nod x132 true]⟩ (by kernel_rfl) ⟨hg163, trivial, trivial⟩ ?_
      refine bindO_e h (fun v169 hc166 h => ?_)
      obtain ⟨x164, b165⟩ := v169
      refine WO_call [.ro 2] Try.f38 rfl rfl rfl (by kernel_rfl) Try.func38 rfl (by kernel_rfl) (spec_apply_ok n x132 (x2.getD i133.toNat dedt) x164 b165 hc166) (And.intro (And.intro rfl rfl) (trivial)) rfl ?_
      refine WO_step 5 [0, 1, 3] [1, 6, 7, 8] True ⟨[(1, .one (.e (.sl 1 0 x2.length))), (6, I i133), (7, .one (.e (.sl 2 0 x164.length))), (8, B b165)], [.row .nod x1 false, .row .edt x2 false, .row .nod x164 true]⟩ (by kernel_rfl) trivial ?_
      refine WO_nil rfl ?_
      refine thenS_n ?_
      refine W_seq ?_
      refine W_seq ?_
      refine W_region ?_
      refine WO_step 2 [0, 1, 2] [1, 6, 7, 33] True ⟨[(1, .one (.e (.sl 1 0 x2.length))), (6, I i133), (7, .one (.e (.sl 2 0 x164.length))), (33, B (!b165))], [.row .nod x1 false, .row .edt x2 false, .row .nod x164 true]⟩ (by kernel_rfl) trivial ?_
      refine WO_nil rfl ?_
      refine thenS_n ?_
      refine iteO_e h (fun hb168 h => W_true rfl hb168 ?_) (fun hb168 h => W_false rfl hb168 ?_)
      · refine W_seq ?_
        refine W_region ?_
        refine WO_step 2 [0, 1] [4, 5] True ⟨[(4, .one (.e (.nsl))), (5, B false)], [.row .nod x1 false, .row .edt x2 false]⟩ (by kernel_rfl) trivial ?_
        refine WO_nilrow 4 .nod rfl ?_
        refine WO_sub [0, 1, 2] [4, 5] (st' := ⟨[(4, .one (.e (.sl 2 0 (([] : List Nod).length)))), (5, B false)], [.row .nod x1 false, .row .edt x2 false, .row .nod ([] : List Nod) true]⟩) (by kernel_rfl) ?_
        refine WO_nil rfl ?_
        refine thenS_n ?_
        refine W_ret ?_
        refine thenS_r ?_
        refine blockS_r ?_
        refine thenS_r ?_
        refine thenS_r ?_
        cases h
        exact And.intro rfl rfl
      · refine W_sub [0, 1, 2] [1, 6, 7] (st' := ⟨[(1, .one (.e (.sl 1 0 x2.length))), (6, I i133), (7, .one (.e (.sl 2 0 x164.length)))], [.row .nod x1 false, .row .edt x2 false, .row .nod x164 true]⟩) (by kernel_rfl) ?_
        refine W_skip ?_
        refine thenS_n ?_
        refine W_region ?_
        refine WO_step 2 [0, 1, 2] [0, 1, 6] True ⟨[(0, .one (.e (.sl 2 0 x164.length))), (1, .one (.e (.sl 1 0 x2.length))), (6, I i133)], [.row .nod x1 false, .row .edt x2 false, .row .nod x164 true]⟩ (by kernel_rfl) trivial ?_
        refine WO_nil rfl ?_
        refine blockS_n ?_
        refine thenS_n ?_
        refine W_region ?_
        refine WO_step 3 [0, 1, 2] [0, 1, 6] (True ∧ True) ⟨[(0, .one (.e (.sl 2 0 x164.length))), (1, .one (.e (.sl 1 0 x2.length))), (6, I (w64 (i133 + 1)))], [.row .nod x1 false, .row .edt x2 false, .row .nod x164 true]⟩ (by kernel_rfl) ⟨trivial, trivial⟩ ?_
        refine WO_nil rfl ?_
        refine thenS_n ?_
        exact ih _ _ h
    · refine W_sub [0, 1, 2] [0] (st' := ⟨[(0, .one (.e (.sl 2 0 x132.length)))], [.row .nod x1 false, .row .edt x2 false, .row .nod x132 true]⟩) (by kernel_rfl) ?_
      refine W_exit ?_
      refine thenS_e ?_
      refine thenS_e ?_
      cases h
      exact And.intro rfl rfl

def spec_ApplyEdits (n : Nat) (x1 : List Nod) (x2 : List Edt) : Option ((List Nod) × Bool) :=
 bindO (spec_validTree n x1) fun b70 =>
 iteO ((!b70) || (decide (24 < ((x2.length : Nat) : Int))))
 (some (([] : List Nod), false))
 (bindO (iteO (decide (0 < ((x2.length : Nat) : Int)))
 (guardO (0 ≤ (0 : Int) ∧ (0 : Int) < ((x2.length : Nat) : Int)) <|
 bindO (spec_apply n x1 (x2.getD 0 dedt)) fun (x127, b128) =>
 iteO (!b128)
 (some (.inl ()))
 (bindO (spec_ApplyEdits_L1 x2 x1 n x127 (w64 (0 + 1))) fun v170 =>
 match v170 with
 | (.inl _) => (some (.inl ()))
 | (.inr x152) => (some (.inr (.inl x152)))
))
 (some (.inr (.inr ()))) : Option ((Unit) ⊕ (((List Nod)) ⊕ (Unit)))) fun v116 =>
 match v116 with
 | (.inl _) => (some (([] : List Nod), false))
 | (.inr (.inl x115)) => (guardO (0 = 0 ∧ ([] : List Nod).length = ([] : List Nod).length ∧ ([] : List Nod).length + ((x115.drop 0).take x115.length).length ≤ 1099511627776) <|
 some ((([] : List Nod) ++ ((x115.drop 0).take x115.length)), true))
 | (.inr (.inr _)) => (guardO (0 = 0 ∧ ([] : List Nod).length = ([] : List Nod).length ∧ ([] : List Nod).length + ((x1.drop 0).take x1.length).length ≤ 1099511627776) <|
 some ((([] : List Nod) ++ ((x1.drop 0).take x1.length)), true))
)

theorem spec_ApplyEdits_ok (n : Nat) (x1 : List Nod) (x2 : List Edt) (x68 : List Nod) (b69 : Bool) (h : spec_ApplyEdits n x1 x2 = some (x68, b69)) : FOk EE 11 [.one (.e (.sl 0 0 x1.length)), .one (.e (.sl 1 0 x2.length))] [.row .nod x1 false, .row .edt x2 false] (.tup [.e (.sl 2 0 x68.length), .e (cB b69)]) [.row .nod x1 false, .row .edt x2 false, .row .nod x68 true] := by
  unfold spec_ApplyEdits at h
  refine FOk_of_W 38 2 Try.func11 rfl rfl (Nat.le_of_ble_eq_true rfl) rfl (fun w X θ => ?_)
  refine W_seq ?_
  refine W_region ?_
  refine WO_step 2 [0, 1] [0, 1] True ⟨[(0, .one (.e (.sl 0 0 x1.length))), (1, .one (.e (.sl 1 0 x2.length)))], [.row .nod x1 false, .row .edt x2 false]⟩ (by kernel_rfl) trivial ?_
  refine WO_nil rfl ?_
  refine thenS_n ?_
  refine W_seq ?_
  refine W_seq ?_
  refine W_region ?_
  refine WO_step 1 [0, 1] [0, 1, 9] True ⟨[(0, .one (.e (.sl 0 0 x1.length))), (1, .one (.e (.sl 1 0 x2.length))), (9, .one (.e (.sl 0 0 x1.length)))], [.row .nod x1 false, .row .edt x2 false]⟩ (by kernel_rfl) trivial ?_
  refine bindO_e h (fun b70 hc71 h => ?_)
  refine WO_call [.ro 0] Try.f37 rfl rfl rfl (by kernel_rfl) Try.func37 rfl (by kernel_rfl) (spec_validTree_ok n x1 b70 hc71) (And.intro (And.intro rfl rfl) (trivial)) rfl ?_
  refine WO_step 2 [0, 1] [0, 1, 12] True ⟨[(0, .one (.e (.sl 0 0 x1.length))), (1, .one (.e (.sl 1 0 x2.length))), (12, B (!b70))], [.row .nod x1 false, .row .edt x2 false]⟩ (by kernel_rfl) trivial ?_
  refine WO_thru ⟨[(0, .one (.e (.sl 0 0 x1.length))), (1, .one (.e (.sl 1 0 x2.length))), (16, B ((!b70) || (decide (24 < ((x2.length : Nat) : Int)))))], [.row .nod x1 false, .row .edt x2 false]⟩ ?_ ?_
  · refine WO_if 12 rfl (fun hb74 => ?_) (fun hb74 => ?_)
    · refine WO_step 4 [0, 1] [0, 1, 16] True ⟨[(0, .one (.e (.sl 0 0 x1.length))), (1, .one (.e (.sl 1 0 x2.length))), (16, B true)], [.row .nod x1 false, .row .edt x2 false]⟩ (by kernel_rfl) trivial ?_
      exact WO_nil rfl ⟨rfl, by first | rfl | (rw [hb74]; first | done | rfl)⟩
    · refine WO_step 4 [0, 1] [0, 1, 16] (True ∧ (True ∧ True)) ⟨[(0, .one (.e (.sl 0 0 x1.length))), (1, .one (.e (.sl 1 0 x2.length))), (16, B (decide (24 < ((x2.length : Nat) : Int))))], [.row .nod x1 false, .row .edt x2 false]⟩ (by kernel_rfl) ⟨trivial, trivial, trivial⟩ ?_
      exact WO_nil rfl ⟨rfl, by first | rfl | (rw [hb74]; first | done | rfl)⟩
  · refine thenS_n ?_
    refine iteO_e h (fun hb76 h => W_true rfl hb76 ?_) (fun hb76 h => W_false rfl hb76 ?_)
    · refine W_seq ?_
      refine W_region ?_
      refine WO_step 2 [0, 1] [4, 5] True ⟨[(4, .one (.e (.nsl))), (5, B false)], [.row .nod x1 false, .row .edt x2 false]⟩ (by kernel_rfl) trivial ?_
      refine WO_nilrow 4 .nod rfl ?_
      refine WO_sub [0, 1, 2] [4, 5] (st' := ⟨[(4, .one (.e (.sl 2 0 (([] : List Nod).length)))), (5, B false)], [.row .nod x1 false, .row .edt x2 false, .row .nod ([] : List Nod) true]⟩) (by kernel_rfl) ?_
      refine WO_nil rfl ?_
      refine thenS_n ?_
      refine W_ret ?_
      refine thenS_r ?_
      cases h
      exact ⟨[0, 1, 2], True, by kernel_rfl, trivial⟩
    · refine W_sub [0, 1] [0, 1] (st' := ⟨[(0, .one (.e (.sl 0 0 x1.length))), (1, .one (.e (.sl 1 0 x2.length)))], [.row .nod x1 false, .row .edt x2 false]⟩) (by kernel_rfl) ?_
      refine W_skip ?_
      refine thenS_n ?_
      refine W_seq ?_
      refine W_seq ?_
      refine W_region ?_
      refine WO_step 1 [0, 1] [0, 1, 6] True ⟨[(0, .one (.e (.sl 0 0 x1.length))), (1, .one (.e (.sl 1 0 x2.length))), (6, I 0)], [.row .nod x1 false, .row .edt x2 false]⟩ (by kernel_rfl) trivial ?_
      refine WO_nil rfl ?_
      refine thenS_n ?_
      refine bindO_e h (fun v116 hv116 h => ?_)
      refine W_cut (Q' := fun (e : Exit) (s : St) => (match v116 with | (.inl _) => e = .ret ∧ s = ⟨[(4, .one (.e (.sl 2 0 (([] : List Nod).length)))), (5, B false)], [.row .nod x1 false, .row .edt x2 false, .row .nod ([] : List Nod) true]⟩ | (.inr (.inl x115)) => e = .normal ∧ s = ⟨[(0, .one (.e (.sl 2 0 x115.length)))], [.row .nod x1 false, .row .edt x2 false, .row .nod x115 true]⟩ | (.inr (.inr _)) => e = .normal ∧ s = ⟨[(0, .one (.e (.sl 0 0 x1.length)))], [.row .nod x1 false, .row .edt x2 false]⟩ : Prop)) ?_ ?_
      · refine W_block ?_
        refine W_loop ?_
        refine WL_round ?_
        refine W_seq ?_
        refine W_seq ?_
        refine W_region ?_
        refine WO_step 4 [0, 1] [0, 1, 6, 20] (True ∧ (True ∧ True)) ⟨[(0, .one (.e (.sl 0 0 x1.length))), (1, .one (.e (.sl 1 0 x2.length))), (6, I 0), (20, B (decide (0 < ((x2.length : Nat) : Int))))], [.row .nod x1 false, .row .edt x2 false]⟩ (by kernel_rfl) ⟨trivial, trivial, trivial⟩ ?_
        refine WO_nil rfl ?_
        refine thenS_n ?_
        refine iteO_e hv116 (fun hb118 hv116 => W_true rfl hb118 ?_) (fun hb118 hv116 => W_false rfl hb118 ?_)
        · refine W_sub [0, 1] [0, 1, 6] (st' := ⟨[(0, .one (.e (.sl 0 0 x1.length))), (1, .one (.e (.sl 1 0 x2.length))), (6, I 0)], [.row .nod x1 false, .row .edt x2 false]⟩) (by kernel_rfl) ?_
          refine W_skip ?_
          refine thenS_n ?_
          refine W_seq ?_
          refine W_block ?_
          refine W_seq ?_
          refine W_region ?_
          refine guardO_e hv116 (fun hg126 hv116 => ?_)
          refine WO_step 5 [0, 1] [1, 6, 24, 28] ((0 ≤ (0 : Int) ∧ (0 : Int) < ((x2.length : Nat) : Int)) ∧ (True ∧ True)) ⟨[(1, .one (.e (.sl 1 0 x2.length))), (6, I 0), (24, .one (.e (.sl 0 0 x1.length))), (28, AGG [cI ((x2.getD 0 dedt).kind), cS ((x2.getD 0 dedt).path), cI ((x2.getD 0 dedt).value)])], [.row .nod x1 false, .row .edt x2 false]⟩ (by kernel_rfl) ⟨hg126, trivial, trivial⟩ ?_
          refine bindO_e hv116 (fun v171 hc129 hv116 => ?_)
          obtain ⟨x127, b128⟩ := v171
          refine WO_call [.ro 0] Try.f38 rfl rfl rfl (by kernel_rfl) Try.func38 rfl (by kernel_rfl) (spec_apply_ok n x1 (x2.getD 0 dedt) x127 b128 hc129) (And.intro (And.intro rfl rfl) (trivial)) rfl ?_
          refine WO_step 5 [0, 1, 2] [1, 6, 7, 8] True ⟨[(1, .one (.e (.sl 1 0 x2.length))), (6, I 0), (7, .one (.e (.sl 2 0 x127.length))), (8, B b128)], [.row .nod x1 false, .row .edt x2 false, .row .nod x127 true]⟩ (by kernel_rfl) trivial ?_
          refine WO_nil rfl ?_
          refine thenS_n ?_
          refine W_seq ?_
          refine W_seq ?_
          refine W_region ?_
          refine WO_step 2 [0, 1, 2] [1, 6, 7, 33] True ⟨[(1, .one (.e (.sl 1 0 x2.length))), (6, I 0), (7, .one (.e (.sl 2 0 x127.length))), (33, B (!b128))], [.row .nod x1 false, .row .edt x2 false, .row .nod x127 true]⟩ (by kernel_rfl) trivial ?_
          refine WO_nil rfl ?_
          refine thenS_n ?_
          refine iteO_e hv116 (fun hb131 hv116 => W_true rfl hb131 ?_) (fun hb131 hv116 => W_false rfl hb131 ?_)
          · refine W_seq ?_
            refine W_region ?_
            refine WO_step 2 [0, 1] [4, 5] True ⟨[(4, .one (.e (.nsl))), (5, B false)], [.row .nod x1 false, .row .edt x2 false]⟩ (by kernel_rfl) trivial ?_
            refine WO_nilrow 4 .nod rfl ?_
            refine WO_sub [0, 1, 2] [4, 5] (st' := ⟨[(4, .one (.e (.sl 2 0 (([] : List Nod).length)))), (5, B false)], [.row .nod x1 false, .row .edt x2 false, .row .nod ([] : List Nod) true]⟩) (by kernel_rfl) ?_
            refine WO_nil rfl ?_
            refine thenS_n ?_
            refine W_ret ?_
            refine thenS_r ?_
            refine blockS_r ?_
            refine thenS_r ?_
            refine thenS_r ?_
            refine blockS_r ?_
            cases hv116
            exact And.intro rfl rfl
          · refine W_sub [0, 1, 2] [1, 6, 7] (st' := ⟨[(1, .one (.e (.sl 1 0 x2.length))), (6, I 0), (7, .one (.e (.sl 2 0 x127.length)))], [.row .nod x1 false, .row .edt x2 false, .row .nod x127 true]⟩) (by kernel_rfl) ?_
            refine W_skip ?_
            refine thenS_n ?_
            refine W_region ?_
            refine WO_step 2 [0, 1, 2] [0, 1, 6] True ⟨[(0, .one (.e (.sl 2 0 x127.length))), (1, .one (.e (.sl 1 0 x2.length))), (6, I 0)], [.row .nod x1 false, .row .edt x2 false, .row .nod x127 true]⟩ (by kernel_rfl) trivial ?_
            refine WO_nil rfl ?_
            refine blockS_n ?_
            refine thenS_n ?_
            refine W_region ?_
            refine WO_step 3 [0, 1, 2] [0, 1, 6] (True ∧ True) ⟨[(0, .one (.e (.sl 2 0 x127.length))), (1, .one (.e (.sl 1 0 x2.length))), (6, I (w64 (0 + 1)))], [.row .nod x1 false, .row .edt x2 false, .row .nod x127 true]⟩ (by kernel_rfl) ⟨trivial, trivial⟩ ?_
            refine WO_nil rfl ?_
            refine thenS_n ?_
            refine bindO_e hv116 (fun v170 hv170 hv116 => ?_)
            refine WL_cut (spec_ApplyEdits_L1_ok w X θ x2 x1 v170 n x127 (w64 (0 + 1)) hv170) ?_
            rcases v170 with _ | x152
            · rintro _ _ ⟨rfl, rfl⟩
              refine blockS_r ?_
              cases hv116
              exact And.intro rfl rfl
            · rintro _ _ ⟨rfl, rfl⟩
              refine blockS_y ?_
              cases hv116
              exact And.intro rfl rfl
        · refine W_sub [0, 1] [0] (st' := ⟨[(0, .one (.e (.sl 0 0 x1.length)))], [.row .nod x1 false, .row .edt x2 false]⟩) (by kernel_rfl) ?_
          refine W_exit ?_
          refine thenS_e ?_
          refine thenS_e ?_
          refine blockS_y ?_
          cases hv116
          exact And.intro rfl rfl
      · rcases v116 with _ | x115 | _
        · rintro _ _ ⟨rfl, rfl⟩
          refine thenS_r ?_
          cases h
          exact ⟨[0, 1, 2], True, by kernel_rfl, trivial⟩
        · rintro _ _ ⟨rfl, rfl⟩
          refine thenS_n ?_
          refine W_seq ?_
          refine W_region ?_
          refine guardO_e h (fun hg172 h => ?_)
          refine WO_step 5 [0, 1, 4] [4, 5] ((0 = 0 ∧ ([] : List Nod).length = ([] : List Nod).length ∧ ([] : List Nod).length + ((x115.drop 0).take x115.length).length ≤ 1099511627776) ∧ True) ⟨[(4, .one (.e (.sl 2 0 ((([] : List Nod) ++ ((x115.drop 0).take x115.length)).length)))), (5, B true)], [.row .nod x1 false, .row .edt x2 false, .row .nod (([] : List Nod) ++ ((x115.drop 0).take x115.length)) true]⟩ (by kernel_rfl) ⟨hg172, trivial⟩ ?_
          refine WO_nil rfl ?_
          refine thenS_n ?_
          refine W_ret ?_
          cases h
          exact ⟨[0, 1, 2], True, by kernel_rfl, trivial⟩
        · rintro _ _ ⟨rfl, rfl⟩
          refine thenS_n ?_
          refine W_seq ?_
          refine W_region ?_
          refine guardO_e h (fun hg173 h => ?_)
          refine WO_step 5 [0, 1, 3] [4, 5] ((0 = 0 ∧ ([] : List Nod).length = ([] : List Nod).length ∧ ([] : List Nod).length + ((x1.drop 0).take x1.length).length ≤ 1099511627776) ∧ True) ⟨[(4, .one (.e (.sl 2 0 ((([] : List Nod) ++ ((x1.drop 0).take x1.length)).length)))), (5, B true)], [.row .nod x1 false, .row .edt x2 false, .row .nod (([] : List Nod) ++ ((x1.drop 0).take x1.length)) true]⟩ (by kernel_rfl) ⟨hg173, trivial⟩ ?_
          refine WO_nil rfl ?_
          refine thenS_n ?_
          refine W_ret ?_
          cases h
          exact ⟨[0, 1, 2], True, by kernel_rfl, trivial⟩

/- impl.within -/
def impl_within (i1 : Int) (i2 : Int) (i3 : Int) : Bool :=
((decide (i2 ≤ i1)) && (decide (i1 ≤ i3)))

theorem impl_within_ok (i1 : Int) (i2 : Int) (i3 : Int) : FOk EE 39 [I i1, I i2, I i3] [] (B (impl_within i1 i2 i3)) [] := by
  refine FOk_of_W 15 0 Try.func39 rfl rfl (Nat.le_of_ble_eq_true rfl) rfl (fun w X θ => ?_)
  refine W_seq ?_
  refine W_region ?_
  refine WO_step 1 [] [0, 1, 2] True ⟨[(0, I i1), (1, I i2), (2, I i3)], []⟩ (by kernel_rfl) trivial ?_
  refine WO_nil rfl ?_
  refine thenS_n ?_
  refine W_seq ?_
  refine W_region ?_
  refine WO_step 4 [] [0, 2, 10] (True ∧ True) ⟨[(0, I i1), (2, I i3), (10, B (decide (i2 ≤ i1)))], []⟩ (by kernel_rfl) ⟨trivial, trivial⟩ ?_
  refine WO_thru ⟨[(6, B ((decide (i2 ≤ i1)) && (decide (i1 ≤ i3))))], []⟩ ?_ ?_
  · refine WO_if 10 rfl (fun hb10 => ?_) (fun hb10 => ?_)
    · refine WO_step 5 [] [6] (True ∧ True) ⟨[(6, B (decide (i1 ≤ i3)))], []⟩ (by kernel_rfl) ⟨trivial, trivial⟩ ?_
      exact WO_nil rfl ⟨rfl, by first | rfl | (rw [hb10]; first | done | rfl)⟩
    · refine WO_step 5 [] [6] True ⟨[(6, B false)], []⟩ (by kernel_rfl) trivial ?_
      exact WO_nil rfl ⟨rfl, by first | rfl | (rw [hb10]; first | done | rfl)⟩
  · refine thenS_n ?_
    refine W_ret ?_
    exact ⟨[], True, by kernel_rfl, trivial⟩

/- impl.isName -/
def impl_isName_L1 (s1 : Str) : Nat → Int → Option ((Unit) ⊕ (Unit))
| 0, _ => none
| n + 1, i96 =>
 iteO (decide (i96 < ((s1.length : Nat) : Int)))
 (guardO (0 ≤ i96 ∧ i96 < ((s1.length : Nat) : Int)) <|
 bindO (iteO (decide (((s1.getD i96.toNat 0).toNat : Int) < 97))
 (some true)
 (guardO (0 ≤ i96 ∧ i96 < ((s1.length : Nat) : Int)) <|
 some (decide (122 < ((s1.getD i96.toNat 0).toNat : Int))))) fun b133 =>
 iteO b133
 (some (.inl ()))
 (impl_isName_L1 s1 n (w64 (i96 + 1))))
 (some (.inr ()))

theorem impl_isName_L1_ok (w : World) (X : Nat → Prop) (θ : List Loc) (s1 : Str) (v : (Unit) ⊕ (Unit)) : ∀ (n : Nat) (i96 : Int), impl_isName_L1 s1 n i96 = some v → WL EE ⟨w, X, θ, 24, 0⟩ (subC [1, 1, 0, 1, 4, 4] (bodyC Try.f40)) (fun (e : Exit) (s : St) => (match v with | (.inl _) => e = .ret ∧ s = ⟨[(2, B false)], []⟩ | (.inr _) => e = .exit 0 ∧ s = ⟨[], []⟩ : Prop)) ⟨[(0, S s1), (9, I ((s1.length : Nat) : Int)), (10, I i96)], []⟩ := by
  intro n
  induction n with
  | zero => intro _ h; exact none_e h
  | succ n ih =>
    intro i96 h
    rw [impl_isName_L1] at h
    refine WL_round ?_
    refine W_seq ?_
    refine W_region ?_
    refine WO_step 1 [] [0, 9, 10, 11] (True ∧ True) ⟨[(0, S s1), (9, I ((s1.length : Nat) : Int)), (10, I i96), (11, B (decide (i96 < ((s1.length : Nat) : Int))))], []⟩ (by kernel_rfl) ⟨trivial, trivial⟩ ?_
    refine WO_nil rfl ?_
    refine thenS_n ?_
    refine W_seq ?_
    refine iteO_e h (fun hb120 h => W_true rfl hb120 ?_) (fun hb120 h => W_false rfl hb120 ?_)
    · refine W_sub [] [0, 9, 10] (st' := ⟨[(0, S s1), (9, I ((s1.length : Nat) : Int)), (10, I i96)], []⟩) (by kernel_rfl) ?_
      refine W_skip ?_
      refine thenS_n ?_
      refine W_seq ?_
      refine W_block ?_
      refine W_seq ?_
      refine W_region ?_
      refine WO_step 2 [] [0, 3, 9, 10] True ⟨[(0, S s1), (3, I i96), (9, I ((s1.length : Nat) : Int)), (10, I i96)], []⟩ (by kernel_rfl) trivial ?_
      refine WO_nil rfl ?_
      refine thenS_n ?_
      refine W_seq ?_
      refine W_region ?_
      refine guardO_e h (fun hg130 h => ?_)
      refine WO_step 5 [] [0, 3, 9, 10, 17] ((0 ≤ i96 ∧ i96 < ((s1.length : Nat) : Int)) ∧ (True ∧ True)) ⟨[(0, S s1), (3, I i96), (9, I ((s1.length : Nat) : Int)), (10, I i96), (17, B (decide (((s1.getD i96.toNat 0).toNat : Int) < 97)))], []⟩ (by kernel_rfl) ⟨hg130, trivial, trivial⟩ ?_
      refine bindO_e h (fun b133 hv134 h => ?_)
      refine WO_thru ⟨[(0, S s1), (9, I ((s1.length : Nat) : Int)), (10, I i96), (22, B b133)], []⟩ ?_ ?_
      · refine iteO_e hv134 (fun hb135 hv134 => WO_known 17 true rfl hb135 ?_) (fun hb135 hv134 => WO_known 17 false rfl hb135 ?_)
        · refine WO_step 5 [] [0, 9, 10, 22] True ⟨[(0, S s1), (9, I ((s1.length : Nat) : Int)), (10, I i96), (22, B true)], []⟩ (by kernel_rfl) trivial ?_
          cases hv134
          exact WO_nil rfl ⟨rfl, rfl⟩
        · refine guardO_e hv134 (fun hg136 hv134 => ?_)
          refine WO_step 5 [] [0, 9, 10, 22] ((0 ≤ i96 ∧ i96 < ((s1.length : Nat) : Int)) ∧ (True ∧ True)) ⟨[(0, S s1), (9, I ((s1.length : Nat) : Int)), (10, I i96), (22, B (decide (122 < ((s1.getD i96.toNat 0).toNat : Int))))], []⟩ (by kernel_rfl) ⟨hg136, trivial, trivial⟩ ?_
          cases hv134
          exact WO_nil rfl ⟨rfl, rfl⟩
      · refine thenS_n ?_
        refine iteO_e h (fun hb138 h => W_true rfl hb138 ?_) (fun hb138 h => W_false rfl hb138 ?_)
        · refine W_seq ?_
          refine W_region ?_
          refine WO_step 1 [] [2] True ⟨[(2, B false)], []⟩ (by kernel_rfl) trivial ?_
          refine WO_nil rfl ?_
          refine thenS_n ?_
          refine W_ret ?_
          refine blockS_r ?_
          refine thenS_r ?_
          refine thenS_r ?_
          cases h
          exact And.intro rfl rfl
        · refine W_sub [] [0, 9, 10] (st' := ⟨[(0, S s1), (9, I ((s1.length : Nat) : Int)), (10, I i96)], []⟩) (by kernel_rfl) ?_
          refine W_skip ?_
          refine blockS_n ?_
          refine thenS_n ?_
          refine W_region ?_
          refine WO_step 2 [] [0, 9, 10] (True ∧ True) ⟨[(0, S s1), (9, I ((s1.length : Nat) : Int)), (10, I (w64 (i96 + 1)))], []⟩ (by kernel_rfl) ⟨trivial, trivial⟩ ?_
          refine WO_nil rfl ?_
          refine thenS_n ?_
          exact ih _ h
    · refine W_sub [] [] (st' := ⟨[], []⟩) (by kernel_rfl) ?_
      refine W_exit ?_
      refine thenS_e ?_
      refine thenS_e ?_
      cases h
      exact And.intro rfl rfl

def impl_isName (n : Nat) (s1 : Str) : Option (Bool) :=
 iteO (!(impl_within ((s1.length : Nat) : Int) 1 4))
 (some false)
 (bindO (impl_isName_L1 s1 n 0) fun v139 =>
 match v139 with
 | (.inl _) => (some false)
 | (.inr _) => (some true)
)

theorem impl_isName_ok (n : Nat) (s1 : Str) (b70 : Bool) (h : impl_isName n s1 = some b70) : FOk EE 40 [S s1] [] (B b70) [] := by
  unfold impl_isName at h
  refine FOk_of_W 24 0 Try.func40 rfl rfl (Nat.le_of_ble_eq_true rfl) rfl (fun w X θ => ?_)
  refine W_seq ?_
  refine W_region ?_
  refine WO_step 1 [] [0] True ⟨[(0, S s1)], []⟩ (by kernel_rfl) trivial ?_
  refine WO_nil rfl ?_
  refine thenS_n ?_
  refine W_seq ?_
  refine W_seq ?_
  refine W_region ?_
  refine WO_step 2 [] [0, 5] (True ∧ True) ⟨[(0, S s1), (5, I ((s1.length : Nat) : Int))], []⟩ (by kernel_rfl) ⟨trivial, trivial⟩ ?_
  refine WO_call [] Try.f39 rfl rfl rfl (by kernel_rfl) Try.func39 rfl (by kernel_rfl) (impl_within_ok ((s1.length : Nat) : Int) 1 4) (trivial) rfl ?_
  refine WO_step 1 [] [0, 7] True ⟨[(0, S s1), (7, B (!(impl_within ((s1.length : Nat) : Int) 1 4)))], []⟩ (by kernel_rfl) trivial ?_
  refine WO_nil rfl ?_
  refine thenS_n ?_
  refine iteO_e h (fun hb72 h => W_true rfl hb72 ?_) (fun hb72 h => W_false rfl hb72 ?_)
  · refine W_seq ?_
    refine W_region ?_
    refine WO_step 1 [] [2] True ⟨[(2, B false)], []⟩ (by kernel_rfl) trivial ?_
    refine WO_nil rfl ?_
    refine thenS_n ?_
    refine W_ret ?_
    refine thenS_r ?_
    cases h
    exact ⟨[], True, by kernel_rfl, trivial⟩
  · refine W_sub [] [0] (st' := ⟨[(0, S s1)], []⟩) (by kernel_rfl) ?_
    refine W_skip ?_
    refine thenS_n ?_
    refine W_seq ?_
    refine W_seq ?_
    refine W_region ?_
    refine WO_step 3 [] [0, 9, 10] (True ∧ True) ⟨[(0, S s1), (9, I ((s1.length : Nat) : Int)), (10, I 0)], []⟩ (by kernel_rfl) ⟨trivial, trivial⟩ ?_
    refine WO_nil rfl ?_
    refine thenS_n ?_
    refine W_block ?_
    refine W_loop ?_
    refine bindO_e h (fun v139 hv139 h => ?_)
    refine WL_cut (impl_isName_L1_ok w X θ s1 v139 n 0 hv139) ?_
    rcases v139 with _ | _
    · rintro _ _ ⟨rfl, rfl⟩
      refine blockS_r ?_
      refine thenS_r ?_
      cases h
      exact ⟨[], True, by kernel_rfl, trivial⟩
    · rintro _ _ ⟨rfl, rfl⟩
      refine blockS_y ?_
      refine thenS_n ?_
      refine W_seq ?_
      refine W_region ?_
      refine WO_step 1 [] [2] True ⟨[(2, B true)], []⟩ (by kernel_rfl) trivial ?_
      refine WO_nil rfl ?_
      refine thenS_n ?_
      refine W_ret ?_
      cases h
      exact ⟨[], True, by kernel_rfl, trivial⟩

/- impl.kidIn -/
def impl_kidIn_L1 (i2 : Int) (s3 : Str) (x1 : List Nod) : Nat → Int → Option ((Int) ⊕ (Unit))
| 0, _ => none
| n + 1, i73 =>
 iteO (decide (i73 < ((x1.length : Nat) : Int)))
 (guardO (0 ≤ i73 ∧ i73 < ((x1.length : Nat) : Int)) <|
 iteO ((decide (((x1.getD i73.toNat dnod).parent) = i2)) && (decide (((x1.getD i73.toNat dnod).name) = s3)))
 (some (.inl i73))
 (impl_kidIn_L1 i2 s3 x1 n (w64 (i73 + 1))))
 (some (.inr ()))

theorem impl_kidIn_L1_ok (w : World) (X : Nat → Prop) (θ : List Loc) (i2 : Int) (s3 : Str) (x1 : List Nod) (v : (Int) ⊕ (Unit)) : ∀ (n : Nat) (i73 : Int), impl_kidIn_L1 i2 s3 x1 n i73 = some v → WL EE ⟨w, X, θ, 28, 1⟩ (subC [1, 0, 1, 4, 4] (bodyC Try.f41)) (fun (e : Exit) (s : St) => (match v with | (.inl i89) => e = .ret ∧ s = ⟨[(6, I i89)], [.row .nod x1 false]⟩ | (.inr _) => e = .exit 0 ∧ s = ⟨[], [.row .nod x1 false]⟩ : Prop)) ⟨[(1, I i2), (2, S s3), (9, .one (.e (.sl 0 0 x1.length))), (10, I ((x1.length : Nat) : Int)), (11, I i73)], [.row .nod x1 false]⟩ := by
  intro n
  induction n with
  | zero => intro _ h; exact none_e h
  | succ n ih =>
    intro i73 h
    rw [impl_kidIn_L1] at h
    refine WL_round ?_
    refine W_seq ?_
    refine W_region ?_
    refine WO_step 1 [0] [1, 2, 9, 10, 11, 12] (True ∧ True) ⟨[(1, I i2), (2, S s3), (9, .one (.e (.sl 0 0 x1.length))), (10, I ((x1.length : Nat) : Int)), (11, I i73), (12, B (decide (i73 < ((x1.length : Nat) : Int))))], [.row .nod x1 false]⟩ (by kernel_rfl) ⟨trivial, trivial⟩ ?_
    refine WO_nil rfl ?_
    refine thenS_n ?_
    refine W_seq ?_
    refine iteO_e h (fun hb92 h => W_true rfl hb92 ?_) (fun hb92 h => W_false rfl hb92 ?_)
    · refine W_sub [0] [1, 2, 9, 10, 11] (st' := ⟨[(1, I i2), (2, S s3), (9, .one (.e (.sl 0 0 x1.length))), (10, I ((x1.length : Nat) : Int)), (11, I i73)], [.row .nod x1 false]⟩) (by kernel_rfl) ?_
      refine W_skip ?_
      refine thenS_n ?_
      refine W_seq ?_
      refine W_block ?_
      refine W_seq ?_
      refine W_region ?_
      refine guardO_e h (fun hg99 h => ?_)
      refine WO_step 6 [0, 1] [1, 2, 7, 8, 9, 10, 11] ((0 ≤ i73 ∧ i73 < ((x1.length : Nat) : Int)) ∧ (True ∧ (True ∧ (True ∧ True)))) ⟨[(1, I i2), (2, S s3), (7, I i73), (8, .one (.e (.p 1 0))), (9, .one (.e (.sl 0 0 x1.length))), (10, I ((x1.length : Nat) : Int)), (11, I i73)], [.row .nod x1 false, .cells [cI ((x1.getD i73.toNat dnod).parent), cS ((x1.getD i73.toNat dnod).name), cI ((x1.getD i73.toNat dnod).value)]]⟩ (by kernel_rfl) ⟨hg99, trivial, trivial, trivial, trivial⟩ ?_
      refine WO_nil rfl ?_
      refine thenS_n ?_
      refine W_seq ?_
      refine W_region ?_
      refine WO_step 5 [0, 1] [1, 2, 7, 8, 9, 10, 11, 20] (True ∧ (True ∧ True)) ⟨[(1, I i2), (2, S s3), (7, I i73), (8, .one (.e (.p 1 0))), (9, .one (.e (.sl 0 0 x1.length))), (10, I ((x1.length : Nat) : Int)), (11, I i73), (20, B (decide (((x1.getD i73.toNat dnod).parent) = i2)))], [.row .nod x1 false, .cells [cI ((x1.getD i73.toNat dnod).parent), cS ((x1.getD i73.toNat dnod).name), cI ((x1.getD i73.toNat dnod).value)]]⟩ (by kernel_rfl) ⟨trivial, trivial, trivial⟩ ?_
      refine WO_thru ⟨[(1, I i2), (2, S s3), (7, I i73), (9, .one (.e (.sl 0 0 x1.length))), (10, I ((x1.length : Nat) : Int)), (11, I i73), (25, B ((decide (((x1.getD i73.toNat dnod).parent) = i2)) && (decide (((x1.getD i73.toNat dnod).name) = s3))))], [.row .nod x1 false]⟩ ?_ ?_
      · refine WO_if 20 rfl (fun hb102 => ?_) (fun hb102 => ?_)
        · refine WO_step 5 [0] [1, 2, 7, 9, 10, 11, 25] (True ∧ (True ∧ True)) ⟨[(1, I i2), (2, S s3), (7, I i73), (9, .one (.e (.sl 0 0 x1.length))), (10, I ((x1.length : Nat) : Int)), (11, I i73), (25, B (decide (((x1.getD i73.toNat dnod).name) = s3)))], [.row .nod x1 false]⟩ (by kernel_rfl) ⟨trivial, trivial, trivial⟩ ?_
          exact WO_nil rfl ⟨rfl, by first | rfl | (rw [hb102]; first | done | rfl)⟩
        · refine WO_step 5 [0] [1, 2, 7, 9, 10, 11, 25] True ⟨[(1, I i2), (2, S s3), (7, I i73), (9, .one (.e (.sl 0 0 x1.length))), (10, I ((x1.length : Nat) : Int)), (11, I i73), (25, B false)], [.row .nod x1 false]⟩ (by kernel_rfl) trivial ?_
          exact WO_nil rfl ⟨rfl, by first | rfl | (rw [hb102]; first | done | rfl)⟩
      · refine thenS_n ?_
        refine iteO_e h (fun hb104 h => W_true rfl hb104 ?_) (fun hb104 h => W_false rfl hb104 ?_)
        · refine W_seq ?_
          refine W_region ?_
          refine WO_step 2 [0] [6] True ⟨[(6, I i73)], [.row .nod x1 false]⟩ (by kernel_rfl) trivial ?_
          refine WO_nil rfl ?_
          refine thenS_n ?_
          refine W_ret ?_
          refine blockS_r ?_
          refine thenS_r ?_
          refine thenS_r ?_
          cases h
          exact And.intro rfl rfl
        · refine W_sub [0] [1, 2, 9, 10, 11] (st' := ⟨[(1, I i2), (2, S s3), (9, .one (.e (.sl 0 0 x1.length))), (10, I ((x1.length : Nat) : Int)), (11, I i73)], [.row .nod x1 false]⟩) (by kernel_rfl) ?_
          refine W_skip ?_
          refine blockS_n ?_
          refine thenS_n ?_
          refine W_region ?_
          refine WO_step 2 [0] [1, 2, 9, 10, 11] (True ∧ True) ⟨[(1, I i2), (2, S s3), (9, .one (.e (.sl 0 0 x1.length))), (10, I ((x1.length : Nat) : Int)), (11, I (w64 (i73 + 1)))], [.row .nod x1 false]⟩ (by kernel_rfl) ⟨trivial, trivial⟩ ?_
          refine WO_nil rfl ?_
          refine thenS_n ?_
          exact ih _ h
    · refine W_sub [0] [] (st' := ⟨[], [.row .nod x1 false]⟩) (by kernel_rfl) ?_
      refine W_exit ?_
      refine thenS_e ?_
      refine thenS_e ?_
      cases h
      exact And.intro rfl rfl

def impl_kidIn (n : Nat) (x1 : List Nod) (i2 : Int) (s3 : Str) : Option (Int) :=
 bindO (impl_kidIn_L1 i2 s3 x1 n 0) fun v105 =>
 match v105 with
 | (.inl i89) => (some i89)
 | (.inr _) => (some (-1))


theorem impl_kidIn_ok (n : Nat) (x1 : List Nod) (i2 : Int) (s3 : Str) (i54 : Int) (h : impl_kidIn n x1 i2 s3 = some i54) : FOk EE 41 [.one (.e (.sl 0 0 x1.length)), I i2, S s3] [.row .nod x1 false] (I i54) [.row .nod x1 false] := by
  unfold impl_kidIn at h
  refine FOk_of_W 28 1 Try.func41 rfl rfl (Nat.le_of_ble_eq_true rfl) rfl (fun w X θ => ?_)
  refine W_seq ?_
  refine W_region ?_
  refine WO_step 1 [0] [0, 1, 2] True ⟨[(0, .one (.e (.sl 0 0 x1.length))), (1, I i2), (2, S s3)], [.row .nod x1 false]⟩ (by kernel_rfl) trivial ?_
  refine WO_nil rfl ?_
  refine thenS_n ?_
  refine W_seq ?_
  refine W_seq ?_
  refine W_region ?_
  refine WO_step 3 [0] [1, 2, 9, 10, 11] (True ∧ True) ⟨[(1, I i2), (2, S s3), (9, .one (.e (.sl 0 0 x1.length))), (10, I ((x1.length : Nat) : Int)), (11, I 0)], [.row .nod x1 false]⟩ (by kernel_rfl) ⟨trivial, trivial⟩ ?_
  refine WO_nil rfl ?_
  refine thenS_n ?_
  refine W_block ?_
  refine W_loop ?_
  refine bindO_e h (fun v105 hv105 h => ?_)
  refine WL_cut (impl_kidIn_L1_ok w X θ i2 s3 x1 v105 n 0 hv105) ?_
  rcases v105 with i89 | _
  · rintro _ _ ⟨rfl, rfl⟩
    refine blockS_r ?_
    refine thenS_r ?_
    cases h
    exact ⟨[0], True, by kernel_rfl, trivial⟩
  · rintro _ _ ⟨rfl, rfl⟩
    refine blockS_y ?_
    refine thenS_n ?_
    refine W_seq ?_
    refine W_region ?_
    refine WO_step 1 [0] [6] True ⟨[(6, I (-1))], [.row .nod x1 false]⟩ (by kernel_rfl) trivial ?_
    refine WO_nil rfl ?_
    refine thenS_n ?_
    refine W_ret ?_
    cases h
    exact ⟨[0], True, by kernel_rfl, trivial⟩

/- impl.ValidTree -/
def impl_ValidTree_L1 (x1 : List Nod) : Nat → (List Int) → Int → Option ((Unit) ⊕ (Unit))
| 0, _, _ => none
| n + 1, x164, i165 =>
 iteO (decide (i165 < ((x1.length : Nat) : Int)))
 (bindO (guardO (0 ≤ i165 ∧ i165 < ((x1.length : Nat) : Int)) <|
 iteO (!(impl_within ((x1.getD i165.toNat dnod).value) (-1000) 1000))
 (some (.inl ()))
 (iteO (decide (i165 = 0))
 (some (.inr x164))
 (bindO (iteO (!(impl_within ((x1.getD i165.toNat dnod).parent) 0 (w64 (i165 - 1))))
 (some true)
 (bindO (impl_isName n ((x1.getD i165.toNat dnod).name)) fun b238 =>
 some (!b238))) fun b235 =>
 iteO b235
 (some (.inl ()))
 (guardO (0 ≤ i165 ∧ i165 ≤ ((x1.length : Nat) : Int)) <|
 bindO (impl_kidIn n ((x1.drop 0).take i165.toNat) ((x1.getD i165.toNat dnod).parent) ((x1.getD i165.toNat dnod).name)) fun i243 =>
 iteO (decide (0 ≤ i243))
 (some (.inl ()))
 (guardO (0 ≤ (x1.getD i165.toNat dnod).parent ∧ (x1.getD i165.toNat dnod).parent < ((x164.length : Nat) : Int)) <|
 guardO (0 ≤ i165 ∧ i165 < ((x164.length : Nat) : Int)) <|
 guardO (0 ≤ i165 ∧ i165 < (((x164.set i165.toNat (w64 ((x164.getD (((x1.getD i165.toNat dnod).parent).toNat) 0) + 1))).length : Nat) : Int)) <|
 iteO (decide (4 < ((x164.set i165.toNat (w64 ((x164.getD (((x1.getD i165.toNat dnod).parent).toNat) 0) + 1))).getD i165.toNat 0)))
 (some (.inl ()))
 (some (.inr (x164.set i165.toNat (w64 ((x164.getD (((x1.getD i165.toNat dnod).parent).toNat) 0) + 1))))))))) : Option ((Unit) ⊕ ((List Int)))) fun v226 =>
 match v226 with
 | (.inl _) => (some (.inl ()))
 | (.inr x225) => (impl_ValidTree_L1 x1 n x225 (w64 (i165 + 1)))
)
 (some (.inr ()))

theorem impl_ValidTree_L1_ok (w : World) (X : Nat → Prop) (θ : List Loc) (x1 : List Nod) (v : (Unit) ⊕ (Unit)) : ∀ (n : Nat) (x164 : List Int) (i165 : Int), impl_ValidTree_L1 x1 n x164 i165 = some v → WL EE ⟨w, X, θ, 78, 1⟩ (subC [1, 1, 1, 1, 0, 1, 4, 4] (bodyC Try.f13)) (fun (e : Exit) (s : St) => (match v with | (.inl _) => e = .ret ∧ s = ⟨[(2, B false)], [.row .nod x1 false]⟩ | (.inr _) => e = .exit 0 ∧ s = ⟨[], [.row .nod x1 false]⟩ : Prop)) ⟨[(0, .one (.e (.sl 0 0 x1.length))), (3, .one (.e (.sl 1 0 x164.length))), (29, .one (.e (.sl 0 0 x1.length))), (30, I ((x1.length : Nat) : Int)), (31, I i165)], [.row .nod x1 false, .row .int x164 true]⟩ := by
  intro n
  induction n with
  | zero => intro _ _ h; exact none_e h
  | succ n ih =>
    intro x164 i165 h
    rw [impl_ValidTree_L1] at h
    refine WL_round ?_
    refine W_seq ?_
    refine W_region ?_
    refine WO_step 1 [0, 1] [0, 3, 29, 30, 31, 32] (True ∧ True) ⟨[(0, .one (.e (.sl 0 0 x1.length))), (3, .one (.e (.sl 1 0 x164.length))), (29, .one (.e (.sl 0 0 x1.length))), (30, I ((x1.length : Nat) : Int)), (31, I i165), (32, B (decide (i165 < ((x1.length : Nat) : Int))))], [.row .nod x1 false, .row .int x164 true]⟩ (by kernel_rfl) ⟨trivial, trivial⟩ ?_
    refine WO_nil rfl ?_
    refine thenS_n ?_
    refine W_seq ?_
    refine iteO_e h (fun hb199 h => W_true rfl hb199 ?_) (fun hb199 h => W_false rfl hb199 ?_)
    · refine W_sub [0, 1] [0, 3, 29, 30, 31] (st' := ⟨[(0, .one (.e (.sl 0 0 x1.length))), (3, .one (.e (.sl 1 0 x164.length))), (29, .one (.e (.sl 0 0 x1.length))), (30, I ((x1.length : Nat) : Int)), (31, I i165)], [.row .nod x1 false, .row .int x164 true]⟩) (by kernel_rfl) ?_
      refine W_skip ?_
      refine thenS_n ?_
      refine W_seq ?_
      refine bindO_e h (fun v226 hv226 h => ?_)
      refine W_cut (Q' := fun (e : Exit) (s : St) => (match v226 with | (.inl _) => e = .ret ∧ s = ⟨[(2, B false)], [.row .nod x1 false]⟩ | (.inr x225) => e = .normal ∧ s = ⟨[(0, .one (.e (.sl 0 0 x1.length))), (3, .one (.e (.sl 1 0 x225.length))), (29, .one (.e (.sl 0 0 x1.length))), (30, I ((x1.length : Nat) : Int)), (31, I i165)], [.row .nod x1 false, .row .int x225 true]⟩ : Prop)) ?_ ?_
      · refine W_block ?_
        refine W_seq ?_
        refine W_region ?_
        refine guardO_e hv226 (fun hg227 hv226 => ?_)
        refine WO_step 6 [0, 1, 2] [0, 3, 4, 5, 29, 30, 31] ((0 ≤ i165 ∧ i165 < ((x1.length : Nat) : Int)) ∧ (True ∧ (True ∧ (True ∧ True)))) ⟨[(0, .one (.e (.sl 0 0 x1.length))), (3, .one (.e (.sl 1 0 x164.length))), (4, I i165), (5, .one (.e (.p 2 0))), (29, .one (.e (.sl 0 0 x1.length))), (30, I ((x1.length : Nat) : Int)), (31, I i165)], [.row .nod x1 false, .row .int x164 true, .cells [cI ((x1.getD i165.toNat dnod).parent), cS ((x1.getD i165.toNat dnod).name), cI ((x1.getD i165.toNat dnod).value)]]⟩ (by kernel_rfl) ⟨hg227, trivial, trivial, trivial, trivial⟩ ?_
        refine WO_nil rfl ?_
        refine thenS_n ?_
        refine W_seq ?_
        refine W_seq ?_
        refine W_region ?_
        refine WO_step 2 [0, 1, 2] [0, 3, 4, 5, 29, 30, 31, 37] (True ∧ True) ⟨[(0, .one (.e (.sl 0 0 x1.length))), (3, .one (.e (.sl 1 0 x164.length))), (4, I i165), (5, .one (.e (.p 2 0))), (29, .one (.e (.sl 0 0 x1.length))), (30, I ((x1.length : Nat) : Int)), (31, I i165), (37, I ((x1.getD i165.toNat dnod).value))], [.row .nod x1 false, .row .int x164 true, .cells [cI ((x1.getD i165.toNat dnod).parent), cS ((x1.getD i165.toNat dnod).name), cI ((x1.getD i165.toNat dnod).value)]]⟩ (by kernel_rfl) ⟨trivial, trivial⟩ ?_
        refine WO_call [] Try.f39 rfl rfl rfl (by kernel_rfl) Try.func39 rfl (by kernel_rfl) (impl_within_ok ((x1.getD i165.toNat dnod).value) (-1000) 1000) (trivial) rfl ?_
        refine WO_step 1 [0, 1, 2] [0, 3, 4, 5, 29, 30, 31, 39] True ⟨[(0, .one (.e (.sl 0 0 x1.length))), (3, .one (.e (.sl 1 0 x164.length))), (4, I i165), (5, .one (.e (.p 2 0))), (29, .one (.e (.sl 0 0 x1.length))), (30, I ((x1.length : Nat) : Int)), (31, I i165), (39, B (!(impl_within ((x1.getD i165.toNat dnod).value) (-1000) 1000)))], [.row .nod x1 false, .row .int x164 true, .cells [cI ((x1.getD i165.toNat dnod).parent), cS ((x1.getD i165.toNat dnod).name), cI ((x1.getD i165.toNat dnod).value)]]⟩ (by kernel_rfl) trivial ?_
        refine WO_nil rfl ?_
        refine thenS_n ?_
        refine iteO_e hv226 (fun hb229 hv226 => W_true rfl hb229 ?_) (fun hb229 hv226 => W_false rfl hb229 ?_)
        · refine W_seq ?_
          refine W_region ?_
          refine WO_step 1 [0] [2] True ⟨[(2, B false)], [.row .nod x1 false]⟩ (by kernel_rfl) trivial ?_
          refine WO_nil rfl ?_
          refine thenS_n ?_
          refine W_ret ?_
          refine thenS_r ?_
          refine blockS_r ?_
          cases hv226
          exact And.intro rfl rfl
        · refine W_sub [0, 1, 2] [0, 3, 4, 5, 29, 30, 31] (st' := ⟨[(0, .one (.e (.sl 0 0 x1.length))), (3, .one (.e (.sl 1 0 x164.length))), (4, I i165), (5, .one (.e (.p 2 0))), (29, .one (.e (.sl 0 0 x1.length))), (30, I ((x1.length : Nat) : Int)), (31, I i165)], [.row .nod x1 false, .row .int x164 true, .cells [cI ((x1.getD i165.toNat dnod).parent), cS ((x1.getD i165.toNat dnod).name), cI ((x1.getD i165.toNat dnod).value)]]⟩) (by kernel_rfl) ?_
          refine W_skip ?_
          refine thenS_n ?_
          refine W_seq ?_
          refine W_seq ?_
          refine W_region ?_
          refine WO_step 2 [0, 1, 2] [0, 3, 4, 5, 29, 30, 31, 41] (True ∧ True) ⟨[(0, .one (.e (.sl 0 0 x1.length))), (3, .one (.e (.sl 1 0 x164.length))), (4, I i165), (5, .one (.e (.p 2 0))), (29, .one (.e (.sl 0 0 x1.length))), (30, I ((x1.length : Nat) : Int)), (31, I i165), (41, B (decide (i165 = 0)))], [.row .nod x1 false, .row .int x164 true, .cells [cI ((x1.getD i165.toNat dnod).parent), cS ((x1.getD i165.toNat dnod).name), cI ((x1.getD i165.toNat dnod).value)]]⟩ (by kernel_rfl) ⟨trivial, trivial⟩ ?_
          refine WO_nil rfl ?_
          refine thenS_n ?_
          refine iteO_e hv226 (fun hb231 hv226 => W_true rfl hb231 ?_) (fun hb231 hv226 => W_false rfl hb231 ?_)
          · refine W_sub [0, 1] [0, 3, 29, 30, 31] (st' := ⟨[(0, .one (.e (.sl 0 0 x1.length))), (3, .one (.e (.sl 1 0 x164.length))), (29, .one (.e (.sl 0 0 x1.length))), (30, I ((x1.length : Nat) : Int)), (31, I i165)], [.row .nod x1 false, .row .int x164 true]⟩) (by kernel_rfl) ?_
            refine W_exit ?_
            refine thenS_e ?_
            refine blockS_y ?_
            cases hv226
            exact And.intro rfl rfl
          · refine W_sub [0, 1, 2] [0, 3, 4, 5, 29, 30, 31] (st' := ⟨[(0, .one (.e (.sl 0 0 x1.length))), (3, .one (.e (.sl 1 0 x164.length))), (4, I i165), (5, .one (.e (.p 2 0))), (29, .one (.e (.sl 0 0 x1.length))), (30, I ((x1.length : Nat) : Int)), (31, I i165)], [.row .nod x1 false, .row .int x164 true, .cells [cI ((x1.getD i165.toNat dnod).parent), cS ((x1.getD i165.toNat dnod).name), cI ((x1.getD i165.toNat dnod).value)]]⟩) (by kernel_rfl) ?_
            refine W_skip ?_
            refine thenS_n ?_
            refine W_seq ?_
            refine W_seq ?_
            refine W_region ?_
            refine WO_step 4 [0, 1, 2] [0, 3, 4, 5, 29, 30, 31, 43, 45] (True ∧ (True ∧ True)) ⟨[(0, .one (.e (.sl 0 0 x1.length))), (3, .one (.e (.sl 1 0 x164.length))), (4, I i165), (5, .one (.e (.p 2 0))), (29, .one (.e (.sl 0 0 x1.length))), (30, I ((x1.length : Nat) : Int)), (31, I i165), (43, I ((x1.getD i165.toNat dnod).parent)), (45, I (w64 (i165 - 1)))], [.row .nod x1 false, .row .int x164 true, .cells [cI ((x1.getD i165.toNat dnod).parent), cS ((x1.getD i165.toNat dnod).name), cI ((x1.getD i165.toNat dnod).value)]]⟩ (by kernel_rfl) ⟨trivial, trivial, trivial⟩ ?_
            refine WO_call [] Try.f39 rfl rfl rfl (by kernel_rfl) Try.func39 rfl (by kernel_rfl) (impl_within_ok ((x1.getD i165.toNat dnod).parent) 0 (w64 (i165 - 1))) (trivial) rfl ?_
            refine WO_step 2 [0, 1, 2] [0, 3, 4, 5, 29, 30, 31, 48] True ⟨[(0, .one (.e (.sl 0 0 x1.length))), (3, .one (.e (.sl 1 0 x164.length))), (4, I i165), (5, .one (.e (.p 2 0))), (29, .one (.e (.sl 0 0 x1.length))), (30, I ((x1.length : Nat) : Int)), (31, I i165), (48, B (!(impl_within ((x1.getD i165.toNat dnod).parent) 0 (w64 (i165 - 1)))))], [.row .nod x1 false, .row .int x164 true, .cells [cI ((x1.getD i165.toNat dnod).parent), cS ((x1.getD i165.toNat dnod).name), cI ((x1.getD i165.toNat dnod).value)]]⟩ (by kernel_rfl) trivial ?_
            refine bindO_e hv226 (fun b235 hv236 hv226 => ?_)
            refine WO_thru ⟨[(0, .one (.e (.sl 0 0 x1.length))), (3, .one (.e (.sl 1 0 x164.length))), (4, I i165), (5, .one (.e (.p 2 0))), (29, .one (.e (.sl 0 0 x1.length))), (30, I ((x1.length : Nat) : Int)), (31, I i165), (53, B b235)], [.row .nod x1 false, .row .int x164 true, .cells [cI ((x1.getD i165.toNat dnod).parent), cS ((x1.getD i165.toNat dnod).name), cI ((x1.getD i165.toNat dnod).value)]]⟩ ?_ ?_
            · refine iteO_e hv236 (fun hb237 hv236 => WO_known 48 true rfl hb237 ?_) (fun hb237 hv236 => WO_known 48 false rfl hb237 ?_)
              · refine WO_step 5 [0, 1, 2] [0, 3, 4, 5, 29, 30, 31, 53] True ⟨[(0, .one (.e (.sl 0 0 x1.length))), (3, .one (.e (.sl 1 0 x164.length))), (4, I i165), (5, .one (.e (.p 2 0))), (29, .one (.e (.sl 0 0 x1.length))), (30, I ((x1.length : Nat) : Int)), (31, I i165), (53, B true)], [.row .nod x1 false, .row .int x164 true, .cells [cI ((x1.getD i165.toNat dnod).parent), cS ((x1.getD i165.toNat dnod).name), cI ((x1.getD i165.toNat dnod).value)]]⟩ (by kernel_rfl) trivial ?_
                cases hv236
                exact WO_nil rfl ⟨rfl, rfl⟩
              · refine WO_step 2 [0, 1, 2] [0, 3, 4, 5, 29, 30, 31, 48, 50] (True ∧ True) ⟨[(0, .one (.e (.sl 0 0 x1.length))), (3, .one (.e (.sl 1 0 x164.length))), (4, I i165), (5, .one (.e (.p 2 0))), (29, .one (.e (.sl 0 0 x1.length))), (30, I ((x1.length : Nat) : Int)), (31, I i165), (48, B false), (50, S ((x1.getD i165.toNat dnod).name))], [.row .nod x1 false, .row .int x164 true, .cells [cI ((x1.getD i165.toNat dnod).parent), cS ((x1.getD i165.toNat dnod).name), cI ((x1.getD i165.toNat dnod).value)]]⟩ (by kernel_rfl) ⟨trivial, trivial⟩ ?_
                refine bindO_e hv236 (fun b238 hc239 hv236 => ?_)
                refine WO_call [] Try.f40 rfl rfl rfl (by kernel_rfl) Try.func40 rfl (by kernel_rfl) (impl_isName_ok n ((x1.getD i165.toNat dnod).name) b238 hc239) (trivial) rfl ?_
                refine WO_step 2 [0, 1, 2] [0, 3, 4, 5, 29, 30, 31, 53] True ⟨[(0, .one (.e (.sl 0 0 x1.length))), (3, .one (.e (.sl 1 0 x164.length))), (4, I i165), (5, .one (.e (.p 2 0))), (29, .one (.e (.sl 0 0 x1.length))), (30, I ((x1.length : Nat) : Int)), (31, I i165), (53, B (!b238))], [.row .nod x1 false, .row .int x164 true, .cells [cI ((x1.getD i165.toNat dnod).parent), cS ((x1.getD i165.toNat dnod).name), cI ((x1.getD i165.toNat dnod).value)]]⟩ (by kernel_rfl) trivial ?_
                cases hv236
                exact WO_nil rfl ⟨rfl, rfl⟩
            · refine thenS_n ?_
              refine iteO_e hv226 (fun hb241 hv226 => W_true rfl hb241 ?_) (fun hb241 hv226 => W_false rfl hb241 ?_)
              · refine W_seq ?_
                refine W_region ?_
                refine WO_step 1 [0] [2] True ⟨[(2, B false)], [.row .nod x1 false]⟩ (by kernel_rfl) trivial ?_
                refine WO_nil rfl ?_
                refine thenS_n ?_
                refine W_ret ?_
                refine thenS_r ?_
                refine blockS_r ?_
                cases hv226
                exact And.intro rfl rfl
              · refine W_sub [0, 1, 2] [0, 3, 4, 5, 29, 30, 31] (st' := ⟨[(0, .one (.e (.sl 0 0 x1.length))), (3, .one (.e (.sl 1 0 x164.length))), (4, I i165), (5, .one (.e (.p 2 0))), (29, .one (.e (.sl 0 0 x1.length))), (30, I ((x1.length : Nat) : Int)), (31, I i165)], [.row .nod x1 false, .row .int x164 true, .cells [cI ((x1.getD i165.toNat dnod).parent), cS ((x1.getD i165.toNat dnod).name), cI ((x1.getD i165.toNat dnod).value)]]⟩) (by kernel_rfl) ?_
                refine W_skip ?_
                refine thenS_n ?_
                refine W_seq ?_
                refine W_seq ?_
                refine guardO_e hv226 (fun hg242 hv226 => ?_)
                refine bindO_e hv226 (fun i243 hc244 hv226 => ?_)
                refine W_cut (Q' := fun (e : Exit) (s : St) => e = .normal ∧ s = ⟨[(0, .one (.e (.sl 0 0 x1.length))), (3, .one (.e (.sl 1 0 x164.length))), (4, I i165), (5, .one (.e (.p 2 0))), (29, .one (.e (.sl 0 0 x1.length))), (30, I ((x1.length : Nat) : Int)), (31, I i165), (62, B (decide (0 ≤ i243)))], [.row .nod x1 false, .row .int x164 true, .cells [cI ((x1.getD i165.toNat dnod).parent), cS ((x1.getD i165.toNat dnod).name), cI ((x1.getD i165.toNat dnod).value)]]⟩) ?_ ?_
                · refine W_draw [] false (by kernel_rfl) (by kernel_rfl) ?_
                  refine WD_takeK [0, 1, 3, 4, 5, 6] [0, 3, 4, 5, 29, 30, 31, 54, 55, 58, 60] [0, 3, 4, 5, 29, 30, 31, 54, 55, 58, 60] (φ := (True ∧ True ∧ (True ∧ True ∧ True))) (ls' := #[true, true, false, true, true, true, true, false, false]) (Ts' := [(0, .one (.e (.sl 0 0 x1.length))), (3, .one (.e (.sl 1 0 x164.length))), (4, I i165), (5, .one (.e (.p 2 0))), (29, .one (.e (.sl 0 0 x1.length))), (30, I ((x1.length : Nat) : Int)), (31, I i165), (54, .one (.e (.sl 0 0 x1.length))), (55, I i165), (58, I ((x1.getD i165.toNat dnod).parent)), (60, S ((x1.getD i165.toNat dnod).name))]) (st' := ⟨[(0, .one (.e (.sl 0 0 x1.length))), (3, .one (.e (.sl 1 0 x164.length))), (4, I i165), (5, .one (.e (.p 2 0))), (29, .one (.e (.sl 0 0 x1.length))), (30, I ((x1.length : Nat) : Int)), (31, I i165), (54, .one (.e (.sl 0 0 x1.length))), (55, I i165), (58, I ((x1.getD i165.toNat dnod).parent)), (60, S ((x1.getD i165.toNat dnod).name))], [.row .nod x1 false, .row .int x164 true, .cells [cI ((x1.getD i165.toNat dnod).parent), cS ((x1.getD i165.toNat dnod).name), cI ((x1.getD i165.toNat dnod).value)]]⟩) (n2 := 3) (by kernel_rfl) ⟨trivial, trivial, trivial, trivial, trivial⟩ rfl ?_
                  refine WD_all [2] (n := 2) (by kernel_rfl) rfl ?_
                  refine WM_op (φ := 0 ≤ i165 ∧ i165 ≤ ((x1.length : Nat) : Int)) (v := .one (.e (.sl 0 0 i165.toNat))) (H' := [.row .nod x1 false, .row .int x164 true, .cells [cI ((x1.getD i165.toNat dnod).parent), cS ((x1.getD i165.toNat dnod).name), cI ((x1.getD i165.toNat dnod).value)]]) rfl rfl (by kernel_rfl) hg242 rfl (And.intro rfl (And.intro rfl (And.intro (And.intro rfl rfl) (trivial)))) ?_
                  refine WD_all [7] (n := 1) (by kernel_rfl) rfl ?_
                  refine WM_call [.view 0] Try.f41 rfl rfl (by kernel_rfl) Try.func41 rfl (by kernel_rfl) (impl_kidIn_ok n ((x1.drop 0).take i165.toNat) ((x1.getD i165.toNat dnod).parent) ((x1.getD i165.toNat dnod).name) i243 hc244) (trivial) rfl (And.intro rfl (And.intro rfl (And.intro (And.intro rfl rfl) (trivial)))) ?_
                  refine WD_takeK [8] [0, 3, 4, 5, 29, 30, 31, 62] [0, 3, 4, 5, 29, 30, 31, 62] (φ := (True ∧ True ∧ True)) (ls' := #[true, true, true, true, true, true, true, true, true]) (Ts' := [(0, .one (.e (.sl 0 0 x1.length))), (3, .one (.e (.sl 1 0 x164.length))), (4, I i165), (5, .one (.e (.p 2 0))), (29, .one (.e (.sl 0 0 x1.length))), (30, I ((x1.length : Nat) : Int)), (31, I i165), (62, B (decide (0 ≤ i243)))]) (st' := ⟨[(0, .one (.e (.sl 0 0 x1.length))), (3, .one (.e (.sl 1 0 x164.length))), (4, I i165), (5, .one (.e (.p 2 0))), (29, .one (.e (.sl 0 0 x1.length))), (30, I ((x1.length : Nat) : Int)), (31, I i165), (62, B (decide (0 ≤ i243)))], [.row .nod x1 false, .row .int x164 true, .cells [cI ((x1.getD i165.toNat dnod).parent), cS ((x1.getD i165.toNat dnod).name), cI ((x1.getD i165.toNat dnod).value)]]⟩) (n2 := 0) (by kernel_rfl) ⟨trivial, trivial, trivial⟩ rfl ?_
                  exact WD_done [0, 1, 2] [0, 3, 4, 5, 29, 30, 31, 62] (st' := ⟨[(0, .one (.e (.sl 0 0 x1.length))), (3, .one (.e (.sl 1 0 x164.length))), (4, I i165), (5, .one (.e (.p 2 0))), (29, .one (.e (.sl 0 0 x1.length))), (30, I ((x1.length : Nat) : Int)), (31, I i165), (62, B (decide (0 ≤ i243)))], [.row .nod x1 false, .row .int x164 true, .cells [cI ((x1.getD i165.toNat dnod).parent), cS ((x1.getD i165.toNat dnod).name), cI ((x1.getD i165.toNat dnod).value)]]⟩) (by kernel_rfl) (by kernel_rfl) (And.intro rfl rfl)
                · rintro _ _ ⟨rfl, rfl⟩
                  refine thenS_n ?_
                  refine iteO_e hv226 (fun hb246 hv226 => W_true rfl hb246 ?_) (fun hb246 hv226 => W_false rfl hb246 ?_)
                  · refine W_seq ?_
                    refine W_region ?_
                    refine WO_step 1 [0] [2] True ⟨[(2, B false)], [.row .nod x1 false]⟩ (by kernel_rfl) trivial ?_
                    refine WO_nil rfl ?_
                    refine thenS_n ?_
                    refine W_ret ?_
                    refine thenS_r ?_
                    refine blockS_r ?_
                    cases hv226
                    exact And.intro rfl rfl
                  · refine W_sub [0, 1, 2] [0, 3, 4, 5, 29, 30, 31] (st' := ⟨[(0, .one (.e (.sl 0 0 x1.length))), (3, .one (.e (.sl 1 0 x164.length))), (4, I i165), (5, .one (.e (.p 2 0))), (29, .one (.e (.sl 0 0 x1.length))), (30, I ((x1.length : Nat) : Int)), (31, I i165)], [.row .nod x1 false, .row .int x164 true, .cells [cI ((x1.getD i165.toNat dnod).parent), cS ((x1.getD i165.toNat dnod).name), cI ((x1.getD i165.toNat dnod).value)]]⟩) (by kernel_rfl) ?_
                    refine W_skip ?_
                    refine thenS_n ?_
                    refine W_seq ?_
                    refine W_region ?_
                    refine guardO_e hv226 (fun hg247 hv226 => ?_)
                    refine guardO_e hv226 (fun hg248 hv226 => ?_)
                    refine WO_step 10 [0, 1] [0, 3, 4, 29, 30, 31] (True ∧ ((0 ≤ (x1.getD i165.toNat dnod).parent ∧ (x1.getD i165.toNat dnod).parent < ((x164.length : Nat) : Int)) ∧ (True ∧ (True ∧ ((0 ≤ i165 ∧ i165 < ((x164.length : Nat) : Int)) ∧ (True ∧ True)))))) ⟨[(0, .one (.e (.sl 0 0 x1.length))), (3, .one (.e (.sl 1 0 x164.length))), (4, I i165), (29, .one (.e (.sl 0 0 x1.length))), (30, I ((x1.length : Nat) : Int)), (31, I i165)], [.row .nod x1 false, .row .int (x164.set i165.toNat (w64 ((x164.getD (((x1.getD i165.toNat dnod).parent).toNat) 0) + 1))) true]⟩ (by kernel_rfl) ⟨trivial, hg247, trivial, trivial, hg248, trivial, trivial⟩ ?_
                    refine WO_eq (st' := ⟨[(0, .one (.e (.sl 0 0 x1.length))), (3, .one (.e (.sl 1 0 ((x164.set i165.toNat (w64 ((x164.getD (((x1.getD i165.toNat dnod).parent).toNat) 0) + 1))).length)))), (4, I i165), (29, .one (.e (.sl 0 0 x1.length))), (30, I ((x1.length : Nat) : Int)), (31, I i165)], [.row .nod x1 false, .row .int (x164.set i165.toNat (w64 ((x164.getD (((x1.getD i165.toNat dnod).parent).toNat) 0) + 1))) true]⟩) (by simp only [List.length_set]) ?_
                    refine WO_nil rfl ?_
                    refine thenS_n ?_
                    refine W_seq ?_
                    refine W_region ?_
                    refine guardO_e hv226 (fun hg249 hv226 => ?_)
                    refine WO_step 5 [0, 1] [0, 3, 29, 30, 31, 76] ((0 ≤ i165 ∧ i165 < (((x164.set i165.toNat (w64 ((x164.getD (((x1.getD i165.toNat dnod).parent).toNat) 0) + 1))).length : Nat) : Int)) ∧ (True ∧ (True ∧ True))) ⟨[(0, .one (.e (.sl 0 0 x1.length))), (3, .one (.e (.sl 1 0 ((x164.set i165.toNat (w64 ((x164.getD (((x1.getD i165.toNat dnod).parent).toNat) 0) + 1))).length)))), (29, .one (.e (.sl 0 0 x1.length))), (30, I ((x1.length : Nat) : Int)), (31, I i165), (76, B (decide (4 < ((x164.set i165.toNat (w64 ((x164.getD (((x1.getD i165.toNat dnod).parent).toNat) 0) + 1))).getD i165.toNat 0))))], [.row .nod x1 false, .row .int (x164.set i165.toNat (w64 ((x164.getD (((x1.getD i165.toNat dnod).parent).toNat) 0) + 1))) true]⟩ (by kernel_rfl) ⟨hg249, trivial, trivial, trivial⟩ ?_
                    refine WO_nil rfl ?_
                    refine thenS_n ?_
                    refine iteO_e hv226 (fun hb251 hv226 => W_true rfl hb251 ?_) (fun hb251 hv226 => W_false rfl hb251 ?_)
                    · refine W_seq ?_
                      refine W_region ?_
                      refine WO_step 1 [0] [2] True ⟨[(2, B false)], [.row .nod x1 false]⟩ (by kernel_rfl) trivial ?_
                      refine WO_nil rfl ?_
                      refine thenS_n ?_
                      refine W_ret ?_
                      refine blockS_r ?_
                      cases hv226
                      exact And.intro rfl rfl
                    · refine W_sub [0, 1] [0, 3, 29, 30, 31] (st' := ⟨[(0, .one (.e (.sl 0 0 x1.length))), (3, .one (.e (.sl 1 0 ((x164.set i165.toNat (w64 ((x164.getD (((x1.getD i165.toNat dnod).parent).toNat) 0) + 1))).length)))), (29, .one (.e (.sl 0 0 x1.length))), (30, I ((x1.length : Nat) : Int)), (31, I i165)], [.row .nod x1 false, .row .int (x164.set i165.toNat (w64 ((x164.getD (((x1.getD i165.toNat dnod).parent).toNat) 0) + 1))) true]⟩) (by kernel_rfl) ?_
                      refine W_skip ?_
                      refine blockS_n ?_
                      cases hv226
                      exact And.intro rfl rfl
      · rcases v226 with _ | x225
        · rintro _ _ ⟨rfl, rfl⟩
          refine thenS_r ?_
          refine thenS_r ?_
          cases h
          exact And.intro rfl rfl
        · rintro _ _ ⟨rfl, rfl⟩
          refine thenS_n ?_
          refine W_region ?_
          refine WO_step 2 [0, 1] [0, 3, 29, 30, 31] (True ∧ True) ⟨[(0, .one (.e (.sl 0 0 x1.length))), (3, .one (.e (.sl 1 0 x225.length))), (29, .one (.e (.sl 0 0 x1.length))), (30, I ((x1.length : Nat) : Int)), (31, I (w64 (i165 + 1)))], [.row .nod x1 false, .row .int x225 true]⟩ (by kernel_rfl) ⟨trivial, trivial⟩ ?_
          refine WO_nil rfl ?_
          refine thenS_n ?_
          exact ih _ _ h
    · refine W_sub [0] [] (st' := ⟨[], [.row .nod x1 false]⟩) (by kernel_rfl) ?_
      refine W_exit ?_
      refine thenS_e ?_
      refine thenS_e ?_
      cases h
      exact And.intro rfl rfl

def impl_ValidTree (n : Nat) (x1 : List Nod) : Option (Bool) :=
 iteO ((decide (((x1.length : Nat) : Int) < 1)) || (decide (12 < ((x1.length : Nat) : Int))))
 (some false)
 (guardO (0 ≤ (0 : Int) ∧ (0 : Int) < ((x1.length : Nat) : Int)) <|
 bindO (iteO (!decide (((x1.getD 0 dnod).parent) = (-1)))
 (some true)
 (guardO (0 ≤ (0 : Int) ∧ (0 : Int) < ((x1.length : Nat) : Int)) <|
 some (!decide (((x1.getD 0 dnod).name) = [])))) fun b123 =>
 iteO b123
 (some false)
 (guardO ((((x1.length : Nat) : Int) : Int) = ((x1.length : Nat) : Int) ∧ 0 ≤ ((x1.length : Nat) : Int) ∧ ((x1.length : Nat) : Int) ≤ 1099511627776) <|
 bindO (impl_ValidTree_L1 x1 n (List.replicate (((x1.length : Nat) : Int).toNat) (0 : Int)) 0) fun v252 =>
 match v252 with
 | (.inl _) => (some false)
 | (.inr _) => (some true)
))

theorem impl_ValidTree_ok (n : Nat) (x1 : List Nod) (b114 : Bool) (h : impl_ValidTree n x1 = some b114) : FOk EE 13 [.one (.e (.sl 0 0 x1.length))] [.row .nod x1 false] (B b114) [.row .nod x1 false] := by
  unfold impl_ValidTree at h
  refine FOk_of_W 78 1 Try.func13 rfl rfl (Nat.le_of_ble_eq_true rfl) rfl (fun w X θ => ?_)
  refine W_seq ?_
  refine W_region ?_
  refine WO_step 1 [0] [0] True ⟨[(0, .one (.e (.sl 0 0 x1.length)))], [.row .nod x1 false]⟩ (by kernel_rfl) trivial ?_
  refine WO_nil rfl ?_
  refine thenS_n ?_
  refine W_seq ?_
  refine W_seq ?_
  refine W_region ?_
  refine WO_step 4 [0] [0, 9] (True ∧ (True ∧ True)) ⟨[(0, .one (.e (.sl 0 0 x1.length))), (9, B (decide (((x1.length : Nat) : Int) < 1)))], [.row .nod x1 false]⟩ (by kernel_rfl) ⟨trivial, trivial, trivial⟩ ?_
  refine WO_thru ⟨[(0, .one (.e (.sl 0 0 x1.length))), (13, B ((decide (((x1.length : Nat) : Int) < 1)) || (decide (12 < ((x1.length : Nat) : Int)))))], [.row .nod x1 false]⟩ ?_ ?_
  · refine WO_if 9 rfl (fun hb117 => ?_) (fun hb117 => ?_)
    · refine WO_step 4 [0] [0, 13] True ⟨[(0, .one (.e (.sl 0 0 x1.length))), (13, B true)], [.row .nod x1 false]⟩ (by kernel_rfl) trivial ?_
      exact WO_nil rfl ⟨rfl, by first | rfl | (rw [hb117]; first | done | rfl)⟩
    · refine WO_step 4 [0] [0, 13] (True ∧ (True ∧ True)) ⟨[(0, .one (.e (.sl 0 0 x1.length))), (13, B (decide (12 < ((x1.length : Nat) : Int))))], [.row .nod x1 false]⟩ (by kernel_rfl) ⟨trivial, trivial, trivial⟩ ?_
      exact WO_nil rfl ⟨rfl, by first | rfl | (rw [hb117]; first | done | rfl)⟩
  · refine thenS_n ?_
    refine iteO_e h (fun hb119 h => W_true rfl hb119 ?_) (fun hb119 h => W_false rfl hb119 ?_)
    · refine W_seq ?_
      refine W_region ?_
      refine WO_step 1 [0] [2] True ⟨[(2, B false)], [.row .nod x1 false]⟩ (by kernel_rfl) trivial ?_
      refine WO_nil rfl ?_
      refine thenS_n ?_
      refine W_ret ?_
      refine thenS_r ?_
      cases h
      exact ⟨[0], True, by kernel_rfl, trivial⟩
    · refine W_sub [0] [0] (st' := ⟨[(0, .one (.e (.sl 0 0 x1.length)))], [.row .nod x1 false]⟩) (by kernel_rfl) ?_
      refine W_skip ?_
      refine thenS_n ?_
      refine W_seq ?_
      refine W_seq ?_
      refine W_region ?_
      refine guardO_e h (fun hg120 h => ?_)
      refine WO_step 6 [0] [0, 19] ((0 ≤ (0 : Int) ∧ (0 : Int) < ((x1.length : Nat) : Int)) ∧ (True ∧ (True ∧ True))) ⟨[(0, .one (.e (.sl 0 0 x1.length))), (19, B (!decide (((x1.getD 0 dnod).parent) = (-1))))], [.row .nod x1 false]⟩ (by kernel_rfl) ⟨hg120, trivial, trivial, trivial⟩ ?_
      refine bindO_e h (fun b123 hv124 h => ?_)
      refine WO_thru ⟨[(0, .one (.e (.sl 0 0 x1.length))), (25, B b123)], [.row .nod x1 false]⟩ ?_ ?_
      · refine iteO_e hv124 (fun hb125 hv124 => WO_known 19 true rfl hb125 ?_) (fun hb125 hv124 => WO_known 19 false rfl hb125 ?_)
        · refine WO_step 6 [0] [0, 25] True ⟨[(0, .one (.e (.sl 0 0 x1.length))), (25, B true)], [.row .nod x1 false]⟩ (by kernel_rfl) trivial ?_
          cases hv124
          exact WO_nil rfl ⟨rfl, rfl⟩
        · refine guardO_e hv124 (fun hg126 hv124 => ?_)
          refine WO_step 6 [0] [0, 25] ((0 ≤ (0 : Int) ∧ (0 : Int) < ((x1.length : Nat) : Int)) ∧ (True ∧ (True ∧ True))) ⟨[(0, .one (.e (.sl 0 0 x1.length))), (25, B (!decide (((x1.getD 0 dnod).name) = [])))], [.row .nod x1 false]⟩ (by kernel_rfl) ⟨hg126, trivial, trivial, trivial⟩ ?_
          cases hv124
          exact WO_nil rfl ⟨rfl, rfl⟩
      · refine thenS_n ?_
        refine iteO_e h (fun hb128 h => W_true rfl hb128 ?_) (fun hb128 h => W_false rfl hb128 ?_)
        · refine W_seq ?_
          refine W_region ?_
          refine WO_step 1 [0] [2] True ⟨[(2, B false)], [.row .nod x1 false]⟩ (by kernel_rfl) trivial ?_
          refine WO_nil rfl ?_
          refine thenS_n ?_
          refine W_ret ?_
          refine thenS_r ?_
          cases h
          exact ⟨[0], True, by kernel_rfl, trivial⟩
        · refine W_sub [0] [0] (st' := ⟨[(0, .one (.e (.sl 0 0 x1.length)))], [.row .nod x1 false]⟩) (by kernel_rfl) ?_
          refine W_skip ?_
          refine thenS_n ?_
          refine W_seq ?_
          refine W_region ?_
          refine guardO_e h (fun hg129 h => ?_)
          refine WO_step 4 [0, 1] [0, 3] (True ∧ (((((x1.length : Nat) : Int) : Int) = ((x1.length : Nat) : Int) ∧ 0 ≤ ((x1.length : Nat) : Int) ∧ ((x1.length : Nat) : Int) ≤ 1099511627776) ∧ True)) ⟨[(0, .one (.e (.sl 0 0 x1.length))), (3, .one (.e (.sl 1 0 ((List.replicate (((x1.length : Nat) : Int).toNat) (0 : Int)).length))))], [.row .nod x1 false, .row .int (List.replicate (((x1.length : Nat) : Int).toNat) (0 : Int)) true]⟩ (by kernel_rfl) ⟨trivial, hg129, trivial⟩ ?_
          refine WO_nil rfl ?_
          refine thenS_n ?_
          refine W_seq ?_
          refine W_seq ?_
          refine W_region ?_
          refine WO_step 3 [0, 1] [0, 3, 29, 30, 31] (True ∧ True) ⟨[(0, .one (.e (.sl 0 0 x1.length))), (3, .one (.e (.sl 1 0 ((List.replicate (((x1.length : Nat) : Int).toNat) (0 : Int)).length)))), (29, .one (.e (.sl 0 0 x1.length))), (30, I ((x1.length : Nat) : Int)), (31, I 0)], [.row .nod x1 false, .row .int (List.replicate (((x1.length : Nat) : Int).toNat) (0 : Int)) true]⟩ (by kernel_rfl) ⟨trivial, trivial⟩ ?_
          refine WO_nil rfl ?_
          refine thenS_n ?_
          refine W_block ?_
          refine W_loop ?_
          refine bindO_e h (fun v252 hv252 h => ?_)
          refine WL_cut (impl_ValidTree_L1_ok w X θ x1 v252 n (List.replicate (((x1.length : Nat) : Int).toNat) (0 : Int)) 0 hv252) ?_
          rcases v252 with _ | _
          · rintro _ _ ⟨rfl, rfl⟩
            refine blockS_r ?_
            refine thenS_r ?_
            cases h
            exact ⟨[0], True, by kernel_rfl, trivial⟩
          · rintro _ _ ⟨rfl, rfl⟩
            refine blockS_y ?_
            refine thenS_n ?_
            refine W_seq ?_
            refine W_region ?_
            refine WO_step 1 [0] [2] True ⟨[(2, B true)], [.row .nod x1 false]⟩ (by kernel_rfl) trivial ?_
            refine WO_nil rfl ?_
            refine thenS_n ?_
            refine W_ret ?_
            cases h
            exact ⟨[0], True, by kernel_rfl, trivial⟩

/- impl.Node] -/
def slices_Clone_Node (x1 : List Nod) : Option (List Nod) :=
 guardO (x1.length ≤ 1099511627776) <|
 some x1

theorem slices_Clone_Node_ok (x1 x2 : List Nod) (h : slices_Clone_Node x1 = some x2) : FOk EE 35 [.one (.e (.sl 0 0 x1.length))] [.row .nod x1 false] (.one (.e (.sl 1 0 x2.length))) [.row .nod x1 false, .row .nod x2 true] := by
  unfold slices_Clone_Node at h
  refine guardO_e h (fun hg h => ?_)
  cases h
  refine FOk_of_W 8 1 Try.func35 rfl rfl (Nat.le_of_ble_eq_true rfl) rfl (fun w X θ => ?_)
  refine W_seq ?_
  refine W_region ?_
  refine WO_step 1 [0] [0] True ⟨[(0, .one (.e (.sl 0 0 x1.length)))], [.row .nod x1 false]⟩ (by kernel_rfl) trivial ?_
  refine WO_nil rfl ?_
  refine thenS_n ?_
  refine W_seq ?_
  refine W_seq ?_
  refine W_region ?_
  refine WO_step 1 [0] [0, 3] True ⟨[(0, .one (.e (.sl 0 0 x1.length))), (3, .one (.e (.sl 0 0 x1.length)))], [.row .nod x1 false]⟩ (by kernel_rfl) trivial ?_
  refine WO_isnil (R := .nod) (xs := x1) (own := false) rfl rfl rfl rfl Try.underlying23 rfl rfl rfl (fun b hb => ?_)
  refine WO_nil rfl ?_
  refine thenS_n ?_
  cases b with
  | true =>
    have e : x1 = [] := List.eq_nil_of_length_eq_zero (hb rfl)
    subst e
    refine W_true rfl rfl ?_
    refine W_seq ?_
    refine W_region ?_
    refine WO_step 1 [0] [2] True ⟨[(2, .one (.e .nsl))], [.row .nod [] false]⟩ (by kernel_rfl) trivial ?_
    refine WO_nil rfl ?_
    refine thenS_n ?_
    refine W_nil 2 .nod rfl ?_
    refine W_ret ?_
    refine thenS_r ?_
    exact ⟨[0, 1], True, by kernel_rfl, trivial⟩
  | false =>
    refine W_false rfl rfl ?_
    refine W_sub [0] [0] (st' := ⟨[(0, .one (.e (.sl 0 0 x1.length)))], [.row .nod x1 false]⟩) (by kernel_rfl) ?_
    refine W_skip ?_
    refine thenS_n ?_
    refine W_seq ?_
    refine W_region ?_
    refine WO_step 4 [0, 2] [2] ((0 = 0 ∧ 0 = ([] : List Nod).length ∧ ([] : List Nod).length + ((x1.drop 0).take x1.length).length ≤ 1099511627776) ∧ True) ⟨[(2, .one (.e (.sl 1 0 (([] : List Nod) ++ ((x1.drop 0).take x1.length)).length)))], [.row .nod x1 false, .row .nod (([] : List Nod) ++ ((x1.drop 0).take x1.length)) true]⟩ (by kernel_rfl) ⟨⟨rfl, rfl, by simpa using hg⟩, trivial⟩ ?_
    refine WO_eq (st' := ⟨[(2, .one (.e (.sl 1 0 x1.length)))], [.row .nod x1 false, .row .nod x1 true]⟩) (by simp only [List.drop_zero, List.take_length, List.nil_append]) ?_
    refine WO_nil rfl ?_
    refine thenS_n ?_
    refine W_ret ?_
    exact ⟨[0, 1], True, by kernel_rfl, trivial⟩

/- stringslite.HasPrefix -/
def stringslite_HasPrefix (s1 : Str) (s2 : Str) : Option (Bool) :=
 bindO (iteO (decide (((s2.length : Nat) : Int) ≤ ((s1.length : Nat) : Int)))
 (guardO (0 ≤ ((s2.length : Nat) : Int) ∧ ((s2.length : Nat) : Int) ≤ ((s1.length : Nat) : Int)) <|
 some (decide ((s1.take (((s2.length : Nat) : Int).toNat)) = s2)))
 (some false)) fun b12 =>
 some b12

theorem stringslite_HasPrefix_ok (s1 : Str) (s2 : Str) (b9 : Bool) (h : stringslite_HasPrefix s1 s2 = some b9) : FOk EE 87 [S s1, S s2] [] (B b9) [] := by
  unfold stringslite_HasPrefix at h
  refine FOk_of_W 18 0 Try.func87 rfl rfl (Nat.le_of_ble_eq_true rfl) rfl (fun w X θ => ?_)
  refine W_seq ?_
  refine W_region ?_
  refine WO_step 1 [] [0, 1] True ⟨[(0, S s1), (1, S s2)], []⟩ (by kernel_rfl) trivial ?_
  refine WO_nil rfl ?_
  refine thenS_n ?_
  refine W_seq ?_
  refine W_region ?_
  refine WO_step 6 [] [0, 1, 10] (True ∧ (True ∧ (True ∧ True))) ⟨[(0, S s1), (1, S s2), (10, B (decide (((s2.length : Nat) : Int) ≤ ((s1.length : Nat) : Int))))], []⟩ (by kernel_rfl) ⟨trivial, trivial, trivial, trivial⟩ ?_
  refine bindO_e h (fun b12 hv13 h => ?_)
  refine WO_thru ⟨[(4, B b12)], []⟩ ?_ ?_
  · refine iteO_e hv13 (fun hb14 hv13 => WO_known 10 true rfl hb14 ?_) (fun hb14 hv13 => WO_known 10 false rfl hb14 ?_)
    · refine guardO_e hv13 (fun hg15 hv13 => ?_)
      refine WO_step 8 [] [4] (True ∧ ((0 ≤ ((s2.length : Nat) : Int) ∧ ((s2.length : Nat) : Int) ≤ ((s1.length : Nat) : Int)) ∧ (True ∧ True))) ⟨[(4, B (decide ((s1.take (((s2.length : Nat) : Int).toNat)) = s2)))], []⟩ (by kernel_rfl) ⟨trivial, hg15, trivial, trivial⟩ ?_
      cases hv13
      exact WO_nil rfl ⟨rfl, rfl⟩
    · refine WO_step 8 [] [4] True ⟨[(4, B false)], []⟩ (by kernel_rfl) trivial ?_
      cases hv13
      exact WO_nil rfl ⟨rfl, rfl⟩
  · refine thenS_n ?_
    refine W_ret ?_
    cases h
    exact ⟨[], True, by kernel_rfl, trivial⟩

/- stringslite.CutPrefix -/
def stringslite_CutPrefix (s1 : Str) (s2 : Str) : Option (Str × Bool) :=
 bindO (stringslite_HasPrefix s1 s2) fun b10 =>
 iteO (!b10)
 (some (s1, false))
 (guardO (0 ≤ ((s2.length : Nat) : Int) ∧ ((s2.length : Nat) : Int) ≤ ((s1.length : Nat) : Int)) <|
 some ((s1.drop (((s2.length : Nat) : Int).toNat)), true))

theorem stringslite_CutPrefix_ok (s1 : Str) (s2 : Str) (s8 : Str) (b9 : Bool) (h : stringslite_CutPrefix s1 s2 = some (s8, b9)) : FOk EE 69 [S s1, S s2] [] (.tup [.e (cS s8), .e (cB b9)]) [] := by
  unfold stringslite_CutPrefix at h
  refine FOk_of_W 15 0 Try.func69 rfl rfl (Nat.le_of_ble_eq_true rfl) rfl (fun w X θ => ?_)
  refine W_seq ?_
  refine W_region ?_
  refine WO_step 2 [] [0, 1] True ⟨[(0, S s1), (1, S s2)], []⟩ (by kernel_rfl) trivial ?_
  refine WO_nil rfl ?_
  refine thenS_n ?_
  refine W_seq ?_
  refine W_seq ?_
  refine W_region ?_
  refine WO_step 2 [] [0, 1, 6, 7] True ⟨[(0, S s1), (1, S s2), (6, S s1), (7, S s2)], []⟩ (by kernel_rfl) trivial ?_
  refine bindO_e h (fun b10 hc11 h => ?_)
  refine WO_call [] Try.f87 rfl rfl rfl (by kernel_rfl) Try.func87 rfl (by kernel_rfl) (stringslite_HasPrefix_ok s1 s2 b10 hc11) (trivial) rfl ?_
  refine WO_step 1 [] [0, 1, 9] True ⟨[(0, S s1), (1, S s2), (9, B (!b10))], []⟩ (by kernel_rfl) trivial ?_
  refine WO_nil rfl ?_
  refine thenS_n ?_
  refine iteO_e h (fun hb13 h => W_true rfl hb13 ?_) (fun hb13 h => W_false rfl hb13 ?_)
  · refine W_seq ?_
    refine W_region ?_
    refine WO_step 3 [] [4, 5] True ⟨[(4, S s1), (5, B false)], []⟩ (by kernel_rfl) trivial ?_
    refine WO_nil rfl ?_
    refine thenS_n ?_
    refine W_ret ?_
    refine thenS_r ?_
    cases h
    exact ⟨[], True, by kernel_rfl, trivial⟩
  · refine W_sub [] [0, 1] (st' := ⟨[(0, S s1), (1, S s2)], []⟩) (by kernel_rfl) ?_
    refine W_skip ?_
    refine thenS_n ?_
    refine W_seq ?_
    refine W_region ?_
    refine guardO_e h (fun hg14 h => ?_)
    refine WO_step 6 [] [4, 5] (True ∧ ((0 ≤ ((s2.length : Nat) : Int) ∧ ((s2.length : Nat) : Int) ≤ ((s1.length : Nat) : Int)) ∧ True)) ⟨[(4, S (s1.drop (((s2.length : Nat) : Int).toNat))), (5, B true)], []⟩ (by kernel_rfl) ⟨trivial, hg14, trivial⟩ ?_
    refine WO_nil rfl ?_
    refine thenS_n ?_
    refine W_ret ?_
    cases h
    exact ⟨[], True, by kernel_rfl, trivial⟩

/- strings.CutPrefix -/
def strings_CutPrefix (s1 : Str) (s2 : Str) : Option (Str × Bool) :=
 bindO (stringslite_CutPrefix s1 s2) fun (s9, b10) =>
 some (s9, b10)

theorem strings_CutPrefix_ok (s1 : Str) (s2 : Str) (s7 : Str) (b8 : Bool) (h : strings_CutPrefix s1 s2 = some (s7, b8)) : FOk EE 42 [S s1, S s2] [] (.tup [.e (cS s7), .e (cB b8)]) [] := by
  unfold strings_CutPrefix at h
  refine FOk_of_W 11 0 Try.func42 rfl rfl (Nat.le_of_ble_eq_true rfl) rfl (fun w X θ => ?_)
  refine W_seq ?_
  refine W_region ?_
  refine WO_step 2 [] [0, 1] True ⟨[(0, S s1), (1, S s2)], []⟩ (by kernel_rfl) trivial ?_
  refine WO_nil rfl ?_
  refine thenS_n ?_
  refine W_seq ?_
  refine W_region ?_
  refine WO_step 2 [] [6, 7] True ⟨[(6, S s1), (7, S s2)], []⟩ (by kernel_rfl) trivial ?_
  refine bindO_e h (fun v12 hc11 h => ?_)
  obtain ⟨s9, b10⟩ := v12
  refine WO_call [] Try.f69 rfl rfl rfl (by kernel_rfl) Try.func69 rfl (by kernel_rfl) (stringslite_CutPrefix_ok s1 s2 s9 b10 hc11) (trivial) rfl ?_
  refine WO_step 4 [] [4, 5] True ⟨[(4, S s9), (5, B b10)], []⟩ (by kernel_rfl) trivial ?_
  refine WO_nil rfl ?_
  refine thenS_n ?_
  refine W_ret ?_
  cases h
  exact ⟨[], True, by kernel_rfl, trivial⟩

/- stringslite.IndexByte -/
def lays217R : Shelf.Ren := ⟨fun n => match n with | 217 => 96 | 266 => 104 | _ => 0, fun n => match n with | 3 => 3 | 5 => 5 | 9 => 9 | _ => 0, fun n => n⟩
set_option maxRecDepth 100000 in
theorem lays217 : Lays.n217 Try.prog lays217R := {
  mixed := by kernel_rfl
  f217 := by kernel_rfl
  f266 := by kernel_rfl
  t3 := Try.underlying3
  a3 := Try.isAgg3
  z3 := Try.sizeOf3
  v3 := Try.zeroValue3
  t5 := Try.underlying5
  a5 := Try.isAgg5
  z5 := Try.sizeOf5
  v5 := Try.zeroValue5
  t9 := Try.underlying9
  a9 := Try.isAgg9
  z9 := Try.sizeOf9
  v9 := Try.zeroValue9 }
def stringslite_IndexByte (s1 : Str) (i2 : Int) : Int := Lib.indexByte s1 (UInt8.ofNat i2.toNat)
theorem stringslite_IndexByte_ok (s1 : Str) (i2 : Int) : FOk EE 96 [S s1, U i2] [] (I (stringslite_IndexByte s1 i2)) [] :=
  FOk_pure (args := [.str s1, .int .u8 i2]) (r := .int .i64 (Lib.indexByte s1 (UInt8.ofNat i2.toNat))) (fun w => Any.stringslite_IndexByte lays217 ⟨⟨s1⟩⟩ i2 w)

/- stringslite.Index -/
def stringslite_Index (s1 : Str) (s2 : Str) : Option (Int) :=
 iteO ((decide (((s2.length : Nat) : Int) = 0)) || (decide (s2 = s1)))
 (some 0)
 (iteO (decide (((s2.length : Nat) : Int) = 1))
 (guardO (0 ≤ (0 : Int) ∧ (0 : Int) < ((s2.length : Nat) : Int)) <|
 some (stringslite_IndexByte s1 ((s2.getD ((0 : Int).toNat) 0).toNat : Int)))
 (iteO (decide (((s1.length : Nat) : Int) ≤ ((s2.length : Nat) : Int)))
 (some (-1))
 (none)))

theorem stringslite_Index_ok (s1 : Str) (s2 : Str) (i45 : Int) (h : stringslite_Index s1 s2 = some i45) : FOk EE 88 [S s1, S s2] [] (I i45) [] := by
  unfold stringslite_Index at h
  refine FOk_of_W 143 0 Try.func88 rfl rfl (Nat.le_of_ble_eq_true rfl) rfl (fun w X θ => ?_)
  refine W_seq ?_
  refine W_region ?_
  refine WO_step 1 [] [0, 1] True ⟨[(0, S s1), (1, S s2)], []⟩ (by kernel_rfl) trivial ?_
  refine WO_nil rfl ?_
  refine thenS_n ?_
  refine W_seq ?_
  refine W_region ?_
  refine WO_step 3 [] [0, 1, 5] (True ∧ True) ⟨[(0, S s1), (1, S s2), (5, I ((s2.length : Nat) : Int))], []⟩ (by kernel_rfl) ⟨trivial, trivial⟩ ?_
  refine WO_nil rfl ?_
  refine thenS_n ?_
  refine W_seq ?_
  refine W_block ?_
  refine W_seq ?_
  refine W_region ?_
  refine WO_step 3 [] [0, 1, 5, 19] (True ∧ True) ⟨[(0, S s1), (1, S s2), (5, I ((s2.length : Nat) : Int)), (19, B (decide (((s2.length : Nat) : Int) = 0)))], []⟩ (by kernel_rfl) ⟨trivial, trivial⟩ ?_
  refine WO_thru ⟨[(0, S s1), (1, S s2), (5, I ((s2.length : Nat) : Int)), (16, B ((decide (((s2.length : Nat) : Int) = 0)) || (decide (s2 = s1))))], []⟩ ?_ ?_
  · refine WO_if 19 rfl (fun hb69 => ?_) (fun hb69 => ?_)
    · refine WO_step 5 [] [0, 1, 5, 16] True ⟨[(0, S s1), (1, S s2), (5, I ((s2.length : Nat) : Int)), (16, B true)], []⟩ (by kernel_rfl) trivial ?_
      exact WO_nil rfl ⟨rfl, by first | rfl | (rw [hb69]; first | done | rfl)⟩
    · refine WO_step 5 [] [0, 1, 5, 16] (True ∧ True) ⟨[(0, S s1), (1, S s2), (5, I ((s2.length : Nat) : Int)), (16, B (decide (s2 = s1)))], []⟩ (by kernel_rfl) ⟨trivial, trivial⟩ ?_
      exact WO_nil rfl ⟨rfl, by first | rfl | (rw [hb69]; first | done | rfl)⟩
  · refine thenS_n ?_
    refine iteO_e h (fun hb79 h => W_true rfl hb79 ?_) (fun hb79 h => W_false rfl hb79 ?_)
    · refine W_seq ?_
      refine W_region ?_
      refine WO_step 1 [] [4] True ⟨[(4, I 0)], []⟩ (by kernel_rfl) trivial ?_
      refine WO_nil rfl ?_
      refine thenS_n ?_
      refine W_ret ?_
      refine blockS_r ?_
      refine thenS_r ?_
      cases h
      exact ⟨[], True, by kernel_rfl, trivial⟩
    · refine W_seq ?_
      refine W_region ?_
      refine WO_step 3 [] [0, 1, 5, 24] (True ∧ True) ⟨[(0, S s1), (1, S s2), (5, I ((s2.length : Nat) : Int)), (24, B (decide (((s2.length : Nat) : Int) = 1)))], []⟩ (by kernel_rfl) ⟨trivial, trivial⟩ ?_
      refine WO_nil rfl ?_
      refine thenS_n ?_
      refine iteO_e h (fun hb84 h => W_true rfl hb84 ?_) (fun hb84 h => W_false rfl hb84 ?_)
      · refine W_seq ?_
        refine W_region ?_
        refine guardO_e h (fun hg85 h => ?_)
        refine WO_step 3 [] [27, 29] ((0 ≤ (0 : Int) ∧ (0 : Int) < ((s2.length : Nat) : Int)) ∧ True) ⟨[(27, S s1), (29, U ((s2.getD ((0 : Int).toNat) 0).toNat : Int))], []⟩ (by kernel_rfl) ⟨hg85, trivial⟩ ?_
        refine WO_call [] Try.f96 rfl rfl rfl (by kernel_rfl) Try.func96 rfl (by kernel_rfl) (stringslite_IndexByte_ok s1 ((s2.getD ((0 : Int).toNat) 0).toNat : Int)) (trivial) rfl ?_
        refine WO_step 1 [] [4] True ⟨[(4, I (stringslite_IndexByte s1 ((s2.getD ((0 : Int).toNat) 0).toNat : Int)))], []⟩ (by kernel_rfl) trivial ?_
        refine WO_nil rfl ?_
        refine thenS_n ?_
        refine W_ret ?_
        refine blockS_r ?_
        refine thenS_r ?_
        cases h
        exact ⟨[], True, by kernel_rfl, trivial⟩
      · refine W_seq ?_
        refine W_region ?_
        refine WO_step 5 [] [0, 1, 5, 31] (True ∧ (True ∧ True)) ⟨[(0, S s1), (1, S s2), (5, I ((s2.length : Nat) : Int)), (31, B (decide (((s1.length : Nat) : Int) ≤ ((s2.length : Nat) : Int))))], []⟩ (by kernel_rfl) ⟨trivial, trivial, trivial⟩ ?_
        refine WO_nil rfl ?_
        refine thenS_n ?_
        refine iteO_e h (fun hb87 h => W_true rfl hb87 ?_) (fun hb87 h => W_false rfl hb87 ?_)
        · refine W_seq ?_
          refine W_region ?_
          refine WO_step 1 [] [4] True ⟨[(4, I (-1))], []⟩ (by kernel_rfl) trivial ?_
          refine WO_nil rfl ?_
          refine thenS_n ?_
          refine W_ret ?_
          refine blockS_r ?_
          refine thenS_r ?_
          cases h
          exact ⟨[], True, by kernel_rfl, trivial⟩
        · exact none_e h

/- stringslite.Cut -/
def stringslite_Cut (s1 : Str) (s2 : Str) : Option (Str × Str × Bool) :=
 bindO (stringslite_Index s1 s2) fun i14 =>
 iteO (decide (0 ≤ i14))
 (guardO (0 ≤ i14 ∧ i14 ≤ ((s1.length : Nat) : Int)) <|
 guardO (0 ≤ (w64 (i14 + ((s2.length : Nat) : Int))) ∧ (w64 (i14 + ((s2.length : Nat) : Int))) ≤ ((s1.length : Nat) : Int)) <|
 some ((s1.take i14.toNat), (s1.drop ((w64 (i14 + ((s2.length : Nat) : Int))).toNat)), true))
 (some (s1, [], false))

theorem stringslite_Cut_ok (s1 : Str) (s2 : Str) (s11 : Str) (s12 : Str) (b13 : Bool) (h : stringslite_Cut s1 s2 = some (s11, s12, b13)) : FOk EE 70 [S s1, S s2] [] (.tup [.e (cS s11), .e (cS s12), .e (cB b13)]) [] := by
  unfold stringslite_Cut at h
  refine FOk_of_W 23 0 Try.func70 rfl rfl (Nat.le_of_ble_eq_true rfl) rfl (fun w X θ => ?_)
  refine W_seq ?_
  refine W_region ?_
  refine WO_step 3 [] [0, 1] True ⟨[(0, S s1), (1, S s2)], []⟩ (by kernel_rfl) trivial ?_
  refine WO_nil rfl ?_
  refine thenS_n ?_
  refine W_seq ?_
  refine W_seq ?_
  refine W_region ?_
  refine WO_step 2 [] [0, 1, 8, 9] True ⟨[(0, S s1), (1, S s2), (8, S s1), (9, S s2)], []⟩ (by kernel_rfl) trivial ?_
  refine bindO_e h (fun i14 hc15 h => ?_)
  refine WO_call [] Try.f88 rfl rfl rfl (by kernel_rfl) Try.func88 rfl (by kernel_rfl) (stringslite_Index_ok s1 s2 i14 hc15) (trivial) rfl ?_
  refine WO_step 1 [] [0, 1, 7] True ⟨[(0, S s1), (1, S s2), (7, I i14)], []⟩ (by kernel_rfl) trivial ?_
  refine WO_nil rfl ?_
  refine thenS_n ?_
  refine W_seq ?_
  refine W_region ?_
  refine WO_step 2 [] [0, 1, 7, 12] (True ∧ True) ⟨[(0, S s1), (1, S s2), (7, I i14), (12, B (decide (0 ≤ i14)))], []⟩ (by kernel_rfl) ⟨trivial, trivial⟩ ?_
  refine WO_nil rfl ?_
  refine thenS_n ?_
  refine iteO_e h (fun hb19 h => W_true rfl hb19 ?_) (fun hb19 h => W_false rfl hb19 ?_)
  · refine W_seq ?_
    refine guardO_e h (fun hg20 h => ?_)
    refine guardO_e h (fun hg21 h => ?_)
    refine W_cut (Q' := fun (e : Exit) (s : St) => e = .normal ∧ s = ⟨[(4, S (s1.take i14.toNat)), (5, S (s1.drop ((w64 (i14 + ((s2.length : Nat) : Int))).toNat))), (6, B true)], []⟩) ?_ ?_
    · refine W_draw [] true (by kernel_rfl) (by kernel_rfl) ?_
      refine WD_takeK [0, 1, 2, 3, 4, 5, 6, 7, 8, 9, 10, 11] [4, 5, 6] [4, 5, 6] (φ := ((0 ≤ i14 ∧ i14 ≤ ((s1.length : Nat) : Int)) ∧ (0 ≤ i14 ∧ i14 ≤ ((s1.length : Nat) : Int)) ∧ (True ∧ True ∧ (True ∧ True ∧ ((0 ≤ (w64 (i14 + ((s2.length : Nat) : Int))) ∧ (w64 (i14 + ((s2.length : Nat) : Int))) ≤ ((s1.length : Nat) : Int)) ∧ (0 ≤ (w64 (i14 + ((s2.length : Nat) : Int))) ∧ (w64 (i14 + ((s2.length : Nat) : Int))) ≤ ((s1.length : Nat) : Int)) ∧ True))))) (ls' := #[true, true, true, true, true, true, true, true, true, true, true, true]) (Ts' := [(4, S (s1.take i14.toNat)), (5, S (s1.drop ((w64 (i14 + ((s2.length : Nat) : Int))).toNat))), (6, B true)]) (st' := ⟨[(4, S (s1.take i14.toNat)), (5, S (s1.drop ((w64 (i14 + ((s2.length : Nat) : Int))).toNat))), (6, B true)], []⟩) (n2 := 0) (by kernel_rfl) ⟨hg20, hg20, trivial, trivial, trivial, trivial, hg21, hg21, trivial⟩ rfl ?_
      exact WD_done [] [4, 5, 6] (st' := ⟨[(4, S (s1.take i14.toNat)), (5, S (s1.drop ((w64 (i14 + ((s2.length : Nat) : Int))).toNat))), (6, B true)], []⟩) (by kernel_rfl) (by kernel_rfl) (And.intro rfl rfl)
    · rintro _ _ ⟨rfl, rfl⟩
      refine thenS_n ?_
      refine W_ret ?_
      refine thenS_r ?_
      cases h
      exact ⟨[], True, by kernel_rfl, trivial⟩
  · refine W_sub [] [0] (st' := ⟨[(0, S s1)], []⟩) (by kernel_rfl) ?_
    refine W_skip ?_
    refine thenS_n ?_
    refine W_seq ?_
    refine W_region ?_
    refine WO_step 4 [] [4, 5, 6] True ⟨[(4, S s1), (5, S []), (6, B false)], []⟩ (by kernel_rfl) trivial ?_
    refine WO_nil rfl ?_
    refine thenS_n ?_
    refine W_ret ?_
    cases h
    exact ⟨[], True, by kernel_rfl, trivial⟩

/- strings.Cut -/
def strings_Cut (s1 : Str) (s2 : Str) : Option (Str × Str × Bool) :=
 bindO (stringslite_Cut s1 s2) fun (s11, s12, b13) =>
 some (s11, s12, b13)

theorem strings_Cut_ok (s1 : Str) (s2 : Str) (s8 : Str) (s9 : Str) (b10 : Bool) (h : strings_Cut s1 s2 = some (s8, s9, b10)) : FOk EE 43 [S s1, S s2] [] (.tup [.e (cS s8), .e (cS s9), .e (cB b10)]) [] := by
  unfold strings_Cut at h
  refine FOk_of_W 13 0 Try.func43 rfl rfl (Nat.le_of_ble_eq_true rfl) rfl (fun w X θ => ?_)
  refine W_seq ?_
  refine W_region ?_
  refine WO_step 3 [] [0, 1] True ⟨[(0, S s1), (1, S s2)], []⟩ (by kernel_rfl) trivial ?_
  refine WO_nil rfl ?_
  refine thenS_n ?_
  refine W_seq ?_
  refine W_region ?_
  refine WO_step 2 [] [7, 8] True ⟨[(7, S s1), (8, S s2)], []⟩ (by kernel_rfl) trivial ?_
  refine bindO_e h (fun v15 hc14 h => ?_)
  obtain ⟨s11, s12, b13⟩ := v15
  refine WO_call [] Try.f70 rfl rfl rfl (by kernel_rfl) Try.func70 rfl (by kernel_rfl) (stringslite_Cut_ok s1 s2 s11 s12 b13 hc14) (trivial) rfl ?_
  refine WO_step 6 [] [4, 5, 6] True ⟨[(4, S s11), (5, S s12), (6, B b13)], []⟩ (by kernel_rfl) trivial ?_
  refine WO_nil rfl ?_
  refine thenS_n ?_
  refine W_ret ?_
  cases h
  exact ⟨[], True, by kernel_rfl, trivial⟩

end Go.Proofs.Ythlfcfcfipahiaa

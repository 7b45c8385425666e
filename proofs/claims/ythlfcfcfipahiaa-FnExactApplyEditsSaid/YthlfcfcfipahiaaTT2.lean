import Derived.Test.YthlfcfcfipahiaaTT1
namespace Go.Proofs.Ythlfcfcfipahiaa
open Go Go.Shelf Go.Proofs
set_option linter.unusedVariables false
/- impl.ResolvePath -/
def impl_ResolvePath_L1 (x1 : List Nod) : Nat → Str → Int → Bool → Option ((Unit) ⊕ (Int))
| 0, _, _, _ => none
| n + 1, s129, i130, b131 =>
 iteO b131
 (bindO (strings_Cut s129 [47]) fun (s168, s169, b170) =>
 bindO (impl_kidIn n x1 i130 s168) fun i172 =>
 iteO (decide (i172 < 0))
 (some (.inl ()))
 (impl_ResolvePath_L1 x1 n s169 i172 b170))
 (some (.inr i130))

theorem impl_ResolvePath_L1_ok (w : World) (X : Nat → Prop) (θ : List Loc) (x1 : List Nod) (v : (Unit) ⊕ (Int)) : ∀ (n : Nat) (s129 : Str) (i130 : Int) (b131 : Bool), impl_ResolvePath_L1 x1 n s129 i130 b131 = some v → WL EE ⟨w, X, θ, 36, 1⟩ (subC [1, 1, 1, 1, 1, 1, 0, 1, 4, 4] (bodyC Try.f14)) (fun (e : Exit) (s : St) => (match v with | (.inl _) => e = .ret ∧ s = ⟨[(4, I (-1))], [.row .nod x1 false]⟩ | (.inr i155) => e = .exit 0 ∧ s = ⟨[(7, I i155)], [.row .nod x1 false]⟩ : Prop)) ⟨[(0, .one (.e (.sl 0 0 x1.length))), (5, S s129), (7, I i130), (8, B b131)], [.row .nod x1 false]⟩ := by
  intro n
  induction n with
  | zero => intro _ _ _ h; exact none_e h
  | succ n ih =>
    intro s129 i130 b131 h
    rw [impl_ResolvePath_L1] at h
    refine WL_round ?_
    refine W_seq ?_
    refine W_seq ?_
    refine W_region ?_
    refine WO_step 1 [0] [0, 5, 7, 22] True ⟨[(0, .one (.e (.sl 0 0 x1.length))), (5, S s129), (7, I i130), (22, B b131)], [.row .nod x1 false]⟩ (by kernel_rfl) trivial ?_
    refine WO_nil rfl ?_
    refine thenS_n ?_
    refine iteO_e h (fun hb158 h => W_true rfl hb158 ?_) (fun hb158 h => W_false rfl hb158 ?_)
    · refine W_sub [0] [0, 5, 7] (st' := ⟨[(0, .one (.e (.sl 0 0 x1.length))), (5, S s129), (7, I i130)], [.row .nod x1 false]⟩) (by kernel_rfl) ?_
      refine W_skip ?_
      refine thenS_n ?_
      refine W_block ?_
      refine W_seq ?_
      refine W_region ?_
      refine WO_step 1 [0] [0, 5, 7] True ⟨[(0, .one (.e (.sl 0 0 x1.length))), (5, S s129), (7, I i130)], [.row .nod x1 false]⟩ (by kernel_rfl) trivial ?_
      refine WO_nil rfl ?_
      refine thenS_n ?_
      refine W_seq ?_
      refine W_region ?_
      refine WO_step 1 [0] [0, 7, 24] True ⟨[(0, .one (.e (.sl 0 0 x1.length))), (7, I i130), (24, S s129)], [.row .nod x1 false]⟩ (by kernel_rfl) trivial ?_
      refine bindO_e h (fun v176 hc171 h => ?_)
      obtain ⟨s168, s169, b170⟩ := v176
      refine WO_call [] Try.f43 rfl rfl rfl (by kernel_rfl) Try.func43 rfl (by kernel_rfl) (strings_Cut_ok s129 [47] s168 s169 b170 hc171) (trivial) rfl ?_
      refine WO_step 7 [0] [0, 5, 7, 8, 9] True ⟨[(0, .one (.e (.sl 0 0 x1.length))), (5, S s169), (7, I i130), (8, B b170), (9, S s168)], [.row .nod x1 false]⟩ (by kernel_rfl) trivial ?_
      refine WO_nil rfl ?_
      refine thenS_n ?_
      refine W_seq ?_
      refine W_region ?_
      refine WO_step 3 [0] [0, 5, 8, 29, 30, 31] True ⟨[(0, .one (.e (.sl 0 0 x1.length))), (5, S s169), (8, B b170), (29, .one (.e (.sl 0 0 x1.length))), (30, I i130), (31, S s168)], [.row .nod x1 false]⟩ (by kernel_rfl) trivial ?_
      refine bindO_e h (fun i172 hc173 h => ?_)
      refine WO_call [.ro 0] Try.f41 rfl rfl rfl (by kernel_rfl) Try.func41 rfl (by kernel_rfl) (impl_kidIn_ok n x1 i130 s168 i172 hc173) (And.intro (And.intro rfl rfl) (trivial)) rfl ?_
      refine WO_step 1 [0] [0, 5, 7, 8] True ⟨[(0, .one (.e (.sl 0 0 x1.length))), (5, S s169), (7, I i172), (8, B b170)], [.row .nod x1 false]⟩ (by kernel_rfl) trivial ?_
      refine WO_nil rfl ?_
      refine thenS_n ?_
      refine W_seq ?_
      refine W_region ?_
      refine WO_step 2 [0] [0, 5, 7, 8, 34] (True ∧ True) ⟨[(0, .one (.e (.sl 0 0 x1.length))), (5, S s169), (7, I i172), (8, B b170), (34, B (decide (i172 < 0)))], [.row .nod x1 false]⟩ (by kernel_rfl) ⟨trivial, trivial⟩ ?_
      refine WO_nil rfl ?_
      refine thenS_n ?_
      refine iteO_e h (fun hb175 h => W_true rfl hb175 ?_) (fun hb175 h => W_false rfl hb175 ?_)
      · refine W_seq ?_
        refine W_region ?_
        refine WO_step 1 [0] [4] True ⟨[(4, I (-1))], [.row .nod x1 false]⟩ (by kernel_rfl) trivial ?_
        refine WO_nil rfl ?_
        refine thenS_n ?_
        refine W_ret ?_
        refine blockS_r ?_
        refine thenS_r ?_
        cases h
        exact And.intro rfl rfl
      · refine W_sub [0] [0, 5, 7, 8] (st' := ⟨[(0, .one (.e (.sl 0 0 x1.length))), (5, S s169), (7, I i172), (8, B b170)], [.row .nod x1 false]⟩) (by kernel_rfl) ?_
        refine W_skip ?_
        refine blockS_n ?_
        refine thenS_n ?_
        exact ih _ _ _ h
    · refine W_sub [0] [7] (st' := ⟨[(7, I i130)], [.row .nod x1 false]⟩) (by kernel_rfl) ?_
      refine W_exit ?_
      refine thenS_e ?_
      refine thenS_e ?_
      cases h
      exact And.intro rfl rfl

def impl_ResolvePath (n : Nat) (x1 : List Nod) (s2 : Str) : Option (Int) :=
 bindO (impl_ValidTree n x1) fun b90 =>
 iteO (!b90)
 (some (-1))
 (bindO (strings_CutPrefix s2 [47]) fun (s94, b95) =>
 iteO (!b95)
 (some (-1))
 (iteO (decide (s94 = []))
 (some 0)
 (bindO (impl_ResolvePath_L1 x1 n s94 0 true) fun v177 =>
 match v177 with
 | (.inl _) => (some (-1))
 | (.inr i155) => (some i155)
)))

theorem impl_ResolvePath_ok (n : Nat) (x1 : List Nod) (s2 : Str) (i89 : Int) (h : impl_ResolvePath n x1 s2 = some i89) : FOk EE 14 [.one (.e (.sl 0 0 x1.length)), S s2] [.row .nod x1 false] (I i89) [.row .nod x1 false] := by
  unfold impl_ResolvePath at h
  refine FOk_of_W 36 1 Try.func14 rfl rfl (Nat.le_of_ble_eq_true rfl) rfl (fun w X θ => ?_)
  refine W_seq ?_
  refine W_region ?_
  refine WO_step 1 [0] [0, 1] True ⟨[(0, .one (.e (.sl 0 0 x1.length))), (1, S s2)], [.row .nod x1 false]⟩ (by kernel_rfl) trivial ?_
  refine WO_nil rfl ?_
  refine thenS_n ?_
  refine W_seq ?_
  refine W_seq ?_
  refine W_region ?_
  refine WO_step 1 [0] [0, 1, 10] True ⟨[(0, .one (.e (.sl 0 0 x1.length))), (1, S s2), (10, .one (.e (.sl 0 0 x1.length)))], [.row .nod x1 false]⟩ (by kernel_rfl) trivial ?_
  refine bindO_e h (fun b90 hc91 h => ?_)
  refine WO_call [.ro 0] Try.f13 rfl rfl rfl (by kernel_rfl) Try.func13 rfl (by kernel_rfl) (impl_ValidTree_ok n x1 b90 hc91) (And.intro (And.intro rfl rfl) (trivial)) rfl ?_
  refine WO_step 1 [0] [0, 1, 12] True ⟨[(0, .one (.e (.sl 0 0 x1.length))), (1, S s2), (12, B (!b90))], [.row .nod x1 false]⟩ (by kernel_rfl) trivial ?_
  refine WO_nil rfl ?_
  refine thenS_n ?_
  refine iteO_e h (fun hb93 h => W_true rfl hb93 ?_) (fun hb93 h => W_false rfl hb93 ?_)
  · refine W_seq ?_
    refine W_region ?_
    refine WO_step 1 [0] [4] True ⟨[(4, I (-1))], [.row .nod x1 false]⟩ (by kernel_rfl) trivial ?_
    refine WO_nil rfl ?_
    refine thenS_n ?_
    refine W_ret ?_
    refine thenS_r ?_
    cases h
    exact ⟨[0], True, by kernel_rfl, trivial⟩
  · refine W_sub [0] [0, 1] (st' := ⟨[(0, .one (.e (.sl 0 0 x1.length))), (1, S s2)], [.row .nod x1 false]⟩) (by kernel_rfl) ?_
    refine W_skip ?_
    refine thenS_n ?_
    refine W_seq ?_
    refine W_region ?_
    refine WO_step 1 [0] [0, 14] True ⟨[(0, .one (.e (.sl 0 0 x1.length))), (14, S s2)], [.row .nod x1 false]⟩ (by kernel_rfl) trivial ?_
    refine bindO_e h (fun v178 hc96 h => ?_)
    obtain ⟨s94, b95⟩ := v178
    refine WO_call [] Try.f42 rfl rfl rfl (by kernel_rfl) Try.func42 rfl (by kernel_rfl) (strings_CutPrefix_ok s2 [47] s94 b95 hc96) (trivial) rfl ?_
    refine WO_step 5 [0] [0, 5, 6] True ⟨[(0, .one (.e (.sl 0 0 x1.length))), (5, S s94), (6, B b95)], [.row .nod x1 false]⟩ (by kernel_rfl) trivial ?_
    refine WO_nil rfl ?_
    refine thenS_n ?_
    refine W_seq ?_
    refine W_seq ?_
    refine W_region ?_
    refine WO_step 2 [0] [0, 5, 19] True ⟨[(0, .one (.e (.sl 0 0 x1.length))), (5, S s94), (19, B (!b95))], [.row .nod x1 false]⟩ (by kernel_rfl) trivial ?_
    refine WO_nil rfl ?_
    refine thenS_n ?_
    refine iteO_e h (fun hb98 h => W_true rfl hb98 ?_) (fun hb98 h => W_false rfl hb98 ?_)
    · refine W_seq ?_
      refine W_region ?_
      refine WO_step 1 [0] [4] True ⟨[(4, I (-1))], [.row .nod x1 false]⟩ (by kernel_rfl) trivial ?_
      refine WO_nil rfl ?_
      refine thenS_n ?_
      refine W_ret ?_
      refine thenS_r ?_
      cases h
      exact ⟨[0], True, by kernel_rfl, trivial⟩
    · refine W_sub [0] [0, 5] (st' := ⟨[(0, .one (.e (.sl 0 0 x1.length))), (5, S s94)], [.row .nod x1 false]⟩) (by kernel_rfl) ?_
      refine W_skip ?_
      refine thenS_n ?_
      refine W_seq ?_
      refine W_seq ?_
      refine W_region ?_
      refine WO_step 2 [0] [0, 5, 21] (True ∧ True) ⟨[(0, .one (.e (.sl 0 0 x1.length))), (5, S s94), (21, B (decide (s94 = [])))], [.row .nod x1 false]⟩ (by kernel_rfl) ⟨trivial, trivial⟩ ?_
      refine WO_nil rfl ?_
      refine thenS_n ?_
      refine iteO_e h (fun hb100 h => W_true rfl hb100 ?_) (fun hb100 h => W_false rfl hb100 ?_)
      · refine W_seq ?_
        refine W_region ?_
        refine WO_step 1 [0] [4] True ⟨[(4, I 0)], [.row .nod x1 false]⟩ (by kernel_rfl) trivial ?_
        refine WO_nil rfl ?_
        refine thenS_n ?_
        refine W_ret ?_
        refine thenS_r ?_
        cases h
        exact ⟨[0], True, by kernel_rfl, trivial⟩
      · refine W_sub [0] [0, 5] (st' := ⟨[(0, .one (.e (.sl 0 0 x1.length))), (5, S s94)], [.row .nod x1 false]⟩) (by kernel_rfl) ?_
        refine W_skip ?_
        refine thenS_n ?_
        refine W_seq ?_
        refine W_region ?_
        refine WO_step 1 [0] [0, 5, 7] True ⟨[(0, .one (.e (.sl 0 0 x1.length))), (5, S s94), (7, I 0)], [.row .nod x1 false]⟩ (by kernel_rfl) trivial ?_
        refine WO_nil rfl ?_
        refine thenS_n ?_
        refine W_seq ?_
        refine W_seq ?_
        refine W_region ?_
        refine WO_step 1 [0] [0, 5, 7, 8] True ⟨[(0, .one (.e (.sl 0 0 x1.length))), (5, S s94), (7, I 0), (8, B true)], [.row .nod x1 false]⟩ (by kernel_rfl) trivial ?_
        refine WO_nil rfl ?_
        refine thenS_n ?_
        refine W_block ?_
        refine W_loop ?_
        refine bindO_e h (fun v177 hv177 h => ?_)
        refine WL_cut (impl_ResolvePath_L1_ok w X θ x1 v177 n s94 0 true hv177) ?_
        rcases v177 with _ | i155
        · rintro _ _ ⟨rfl, rfl⟩
          refine blockS_r ?_
          refine thenS_r ?_
          cases h
          exact ⟨[0], True, by kernel_rfl, trivial⟩
        · rintro _ _ ⟨rfl, rfl⟩
          refine blockS_y ?_
          refine thenS_n ?_
          refine W_seq ?_
          refine W_region ?_
          refine WO_step 2 [0] [4] True ⟨[(4, I i155)], [.row .nod x1 false]⟩ (by kernel_rfl) trivial ?_
          refine WO_nil rfl ?_
          refine thenS_n ?_
          refine W_ret ?_
          cases h
          exact ⟨[0], True, by kernel_rfl, trivial⟩

/- impl.isNode -/
def impl_isNode (n : Nat) (x1 : List Nod) (i2 : Int) : Option (Bool) :=
 bindO (iteO (impl_within i2 0 (w64 (((x1.length : Nat) : Int) - 1)))
 (bindO (impl_ValidTree n x1) fun b18 =>
 some b18)
 (some false)) fun b15 =>
 some b15

theorem impl_isNode_ok (n : Nat) (x1 : List Nod) (i2 : Int) (b11 : Bool) (h : impl_isNode n x1 i2 = some b11) : FOk EE 71 [.one (.e (.sl 0 0 x1.length)), I i2] [.row .nod x1 false] (B b11) [.row .nod x1 false] := by
  unfold impl_isNode at h
  refine FOk_of_W 14 1 Try.func71 rfl rfl (Nat.le_of_ble_eq_true rfl) rfl (fun w X θ => ?_)
  refine W_seq ?_
  refine W_region ?_
  refine WO_step 1 [0] [0, 1] True ⟨[(0, .one (.e (.sl 0 0 x1.length))), (1, I i2)], [.row .nod x1 false]⟩ (by kernel_rfl) trivial ?_
  refine WO_nil rfl ?_
  refine thenS_n ?_
  refine W_seq ?_
  refine W_region ?_
  refine WO_step 4 [0] [0, 5, 8] (True ∧ (True ∧ True)) ⟨[(0, .one (.e (.sl 0 0 x1.length))), (5, I i2), (8, I (w64 (((x1.length : Nat) : Int) - 1)))], [.row .nod x1 false]⟩ (by kernel_rfl) ⟨trivial, trivial, trivial⟩ ?_
  refine WO_call [] Try.f39 rfl rfl rfl (by kernel_rfl) Try.func39 rfl (by kernel_rfl) (impl_within_ok i2 0 (w64 (((x1.length : Nat) : Int) - 1))) (trivial) rfl ?_
  refine WO_step 1 [0] [0, 10] True ⟨[(0, .one (.e (.sl 0 0 x1.length))), (10, B (impl_within i2 0 (w64 (((x1.length : Nat) : Int) - 1))))], [.row .nod x1 false]⟩ (by kernel_rfl) trivial ?_
  refine bindO_e h (fun b15 hv16 h => ?_)
  refine WO_thru ⟨[(4, B b15)], [.row .nod x1 false]⟩ ?_ ?_
  · refine iteO_e hv16 (fun hb17 hv16 => WO_known 10 true rfl hb17 ?_) (fun hb17 hv16 => WO_known 10 false rfl hb17 ?_)
    · refine WO_step 1 [0] [10, 11] True ⟨[(10, B true), (11, .one (.e (.sl 0 0 x1.length)))], [.row .nod x1 false]⟩ (by kernel_rfl) trivial ?_
      refine bindO_e hv16 (fun b18 hc19 hv16 => ?_)
      refine WO_call [.ro 0] Try.f13 rfl rfl rfl (by kernel_rfl) Try.func13 rfl (by kernel_rfl) (impl_ValidTree_ok n x1 b18 hc19) (And.intro (And.intro rfl rfl) (trivial)) rfl ?_
      refine WO_step 2 [0] [4] True ⟨[(4, B b18)], [.row .nod x1 false]⟩ (by kernel_rfl) trivial ?_
      cases hv16
      exact WO_nil rfl ⟨rfl, rfl⟩
    · refine WO_step 4 [0] [4] True ⟨[(4, B false)], [.row .nod x1 false]⟩ (by kernel_rfl) trivial ?_
      cases hv16
      exact WO_nil rfl ⟨rfl, rfl⟩
  · refine thenS_n ?_
    refine W_ret ?_
    cases h
    exact ⟨[0], True, by kernel_rfl, trivial⟩

/- impl.reaches -/
def impl_reaches_L1 (x1 : List Nod) (i2 : Int) : Nat → Int → Option (Int)
| 0, _ => none
| n + 1, i33 =>
 iteO (decide (i2 < i33))
 (guardO (0 ≤ i33 ∧ i33 < ((x1.length : Nat) : Int)) <|
 impl_reaches_L1 x1 i2 n ((x1.getD i33.toNat dnod).parent))
 (some i33)

theorem impl_reaches_L1_ok (w : World) (X : Nat → Prop) (θ : List Loc) (x1 : List Nod) (i2 : Int) (i39 : Int) : ∀ (n : Nat) (i33 : Int), impl_reaches_L1 x1 i2 n i33 = some i39 → WL EE ⟨w, X, θ, 18, 1⟩ (subC [1, 0, 4, 4] (bodyC Try.f79)) (fun (e : Exit) (s : St) => e = .exit 0 ∧ s = ⟨[(1, I i2), (2, I i39)], [.row .nod x1 false]⟩) ⟨[(0, .one (.e (.sl 0 0 x1.length))), (1, I i2), (2, I i33)], [.row .nod x1 false]⟩ := by
  intro n
  induction n with
  | zero => intro _ h; exact none_e h
  | succ n ih =>
    intro i33 h
    rw [impl_reaches_L1] at h
    refine WL_round ?_
    refine W_seq ?_
    refine W_seq ?_
    refine W_region ?_
    refine WO_step 3 [0] [0, 1, 2, 9] (True ∧ True) ⟨[(0, .one (.e (.sl 0 0 x1.length))), (1, I i2), (2, I i33), (9, B (decide (i2 < i33)))], [.row .nod x1 false]⟩ (by kernel_rfl) ⟨trivial, trivial⟩ ?_
    refine WO_nil rfl ?_
    refine thenS_n ?_
    refine iteO_e h (fun hb42 h => W_true rfl hb42 ?_) (fun hb42 h => W_false rfl hb42 ?_)
    · refine W_sub [0] [0, 1, 2] (st' := ⟨[(0, .one (.e (.sl 0 0 x1.length))), (1, I i2), (2, I i33)], [.row .nod x1 false]⟩) (by kernel_rfl) ?_
      refine W_skip ?_
      refine thenS_n ?_
      refine W_block ?_
      refine W_region ?_
      refine guardO_e h (fun hg44 h => ?_)
      refine WO_step 6 [0] [0, 1, 2] ((0 ≤ i33 ∧ i33 < ((x1.length : Nat) : Int)) ∧ (True ∧ True)) ⟨[(0, .one (.e (.sl 0 0 x1.length))), (1, I i2), (2, I ((x1.getD i33.toNat dnod).parent))], [.row .nod x1 false]⟩ (by kernel_rfl) ⟨hg44, trivial, trivial⟩ ?_
      refine WO_nil rfl ?_
      refine blockS_n ?_
      refine thenS_n ?_
      exact ih _ h
    · refine W_sub [0] [1, 2] (st' := ⟨[(1, I i2), (2, I i33)], [.row .nod x1 false]⟩) (by kernel_rfl) ?_
      refine W_exit ?_
      refine thenS_e ?_
      refine thenS_e ?_
      cases h
      exact And.intro rfl rfl

def impl_reaches (n : Nat) (x1 : List Nod) (i2 : Int) (i3 : Int) : Option (Bool) :=
 bindO (impl_reaches_L1 x1 i2 n i3) fun i39 =>
 some (decide (i39 = i2))

theorem impl_reaches_ok (n : Nat) (x1 : List Nod) (i2 : Int) (i3 : Int) (b24 : Bool) (h : impl_reaches n x1 i2 i3 = some b24) : FOk EE 79 [.one (.e (.sl 0 0 x1.length)), I i2, I i3] [.row .nod x1 false] (B b24) [.row .nod x1 false] := by
  unfold impl_reaches at h
  refine FOk_of_W 18 1 Try.func79 rfl rfl (Nat.le_of_ble_eq_true rfl) rfl (fun w X θ => ?_)
  refine W_seq ?_
  refine W_region ?_
  refine WO_step 1 [0] [0, 1, 2] True ⟨[(0, .one (.e (.sl 0 0 x1.length))), (1, I i2), (2, I i3)], [.row .nod x1 false]⟩ (by kernel_rfl) trivial ?_
  refine WO_nil rfl ?_
  refine thenS_n ?_
  refine W_seq ?_
  refine W_block ?_
  refine W_loop ?_
  refine bindO_e h (fun i39 hi39 h => ?_)
  refine WL_cut (impl_reaches_L1_ok w X θ x1 i2 i39 n i3 hi39) ?_
  rintro _ _ ⟨rfl, rfl⟩
  refine blockS_y ?_
  refine thenS_n ?_
  refine W_seq ?_
  refine W_region ?_
  refine WO_step 4 [0] [6] (True ∧ True) ⟨[(6, B (decide (i39 = i2)))], [.row .nod x1 false]⟩ (by kernel_rfl) ⟨trivial, trivial⟩ ?_
  refine WO_nil rfl ?_
  refine thenS_n ?_
  refine W_ret ?_
  cases h
  exact ⟨[0], True, by kernel_rfl, trivial⟩

/- impl.DropNode -/
def impl_DropNode_L1 (x1 : List Nod) (i2 : Int) : Nat → (List Int) → (List Nod) → Int → Option ((List Nod))
| 0, _, _, _ => none
| n + 1, x109, x110, i111 =>
 iteO (decide (i111 < ((x1.length : Nat) : Int)))
 (bindO (guardO (0 ≤ i111 ∧ i111 < ((x1.length : Nat) : Int)) <|
 bindO (impl_reaches n x1 i2 i111) fun b150 =>
 iteO b150
 (some (x109, x110))
 (guardO (0 ≤ i111 ∧ i111 < ((x109.length : Nat) : Int)) <|
 bindO (iteO (decide (0 < i111))
 (guardO (0 ≤ (x1.getD i111.toNat dnod).parent ∧ (x1.getD i111.toNat dnod).parent < (((x109.set i111.toNat ((x110.length : Nat) : Int)).length : Nat) : Int)) <|
 some ((x109.set i111.toNat ((x110.length : Nat) : Int)).getD (((x1.getD i111.toNat dnod).parent).toNat) 0))
 (some ((x1.getD i111.toNat dnod).parent))) fun i157 =>
 guardO (0 = 0 ∧ x110.length = x110.length ∧ x110.length + (([(⟨i157, (x1.getD i111.toNat dnod).name, (x1.getD i111.toNat dnod).value⟩ : Nod)].drop 0).take ([(⟨i157, (x1.getD i111.toNat dnod).name, (x1.getD i111.toNat dnod).value⟩ : Nod)].length)).length ≤ 1099511627776) <|
 some ((x109.set i111.toNat ((x110.length : Nat) : Int)), (x110 ++ (([(⟨i157, (x1.getD i111.toNat dnod).name, (x1.getD i111.toNat dnod).value⟩ : Nod)].drop 0).take ([(⟨i157, (x1.getD i111.toNat dnod).name, (x1.getD i111.toNat dnod).value⟩ : Nod)].length)))))) fun v148 =>
 match v148 with
 | (x146, x147) => (impl_DropNode_L1 x1 i2 n x146 x147 (w64 (i111 + 1)))
)
 (some x110)

theorem impl_DropNode_L1_ok (w : World) (X : Nat → Prop) (θ : List Loc) (x1 : List Nod) (i2 : Int) (x131 : (List Nod)) : ∀ (n : Nat) (x109 : List Int) (x110 : List Nod) (i111 : Int), impl_DropNode_L1 x1 i2 n x109 x110 i111 = some x131 → WL EE ⟨w, X, θ, 51, 1⟩ (subC [1, 1, 1, 1, 0, 1, 4, 4] (bodyC Try.f61)) (fun (e : Exit) (s : St) => e = .exit 0 ∧ s = ⟨[(7, .one (.e (.sl 1 0 x131.length)))], [.row .nod x1 false, .row .nod x131 true]⟩) ⟨[(0, .one (.e (.sl 0 0 x1.length))), (1, I i2), (6, .one (.e (.sl 1 0 x109.length))), (7, .one (.e (.sl 2 0 x110.length))), (21, .one (.e (.sl 0 0 x1.length))), (22, I ((x1.length : Nat) : Int)), (23, I i111)], [.row .nod x1 false, .row .int x109 true, .row .nod x110 true]⟩ := by
  intro n
  induction n with
  | zero => intro _ _ _ h; exact none_e h
  | succ n ih =>
    intro x109 x110 i111 h
    rw [impl_DropNode_L1] at h
    refine WL_round ?_
    refine W_seq ?_
    refine W_region ?_
    refine WO_step 1 [0, 1, 2] [0, 1, 6, 7, 21, 22, 23, 24] (True ∧ True) ⟨[(0, .one (.e (.sl 0 0 x1.length))), (1, I i2), (6, .one (.e (.sl 1 0 x109.length))), (7, .one (.e (.sl 2 0 x110.length))), (21, .one (.e (.sl 0 0 x1.length))), (22, I ((x1.length : Nat) : Int)), (23, I i111), (24, B (decide (i111 < ((x1.length : Nat) : Int))))], [.row .nod x1 false, .row .int x109 true, .row .nod x110 true]⟩ (by kernel_rfl) ⟨trivial, trivial⟩ ?_
    refine WO_nil rfl ?_
    refine thenS_n ?_
    refine W_seq ?_
    refine iteO_e h (fun hb134 h => W_true rfl hb134 ?_) (fun hb134 h => W_false rfl hb134 ?_)
    · refine W_sub [0, 1, 2] [0, 1, 6, 7, 21, 22, 23] (st' := ⟨[(0, .one (.e (.sl 0 0 x1.length))), (1, I i2), (6, .one (.e (.sl 1 0 x109.length))), (7, .one (.e (.sl 2 0 x110.length))), (21, .one (.e (.sl 0 0 x1.length))), (22, I ((x1.length : Nat) : Int)), (23, I i111)], [.row .nod x1 false, .row .int x109 true, .row .nod x110 true]⟩) (by kernel_rfl) ?_
      refine W_skip ?_
      refine thenS_n ?_
      refine W_seq ?_
      refine bindO_e h (fun v148 hv148 h => ?_)
      refine W_cut (Q' := fun (e : Exit) (s : St) => (match v148 with | (x146, x147) => e = .normal ∧ s = ⟨[(0, .one (.e (.sl 0 0 x1.length))), (1, I i2), (6, .one (.e (.sl 1 0 x146.length))), (7, .one (.e (.sl 2 0 x147.length))), (21, .one (.e (.sl 0 0 x1.length))), (22, I ((x1.length : Nat) : Int)), (23, I i111)], [.row .nod x1 false, .row .int x146 true, .row .nod x147 true]⟩ : Prop)) ?_ ?_
      · refine W_block ?_
        refine W_seq ?_
        refine W_region ?_
        refine guardO_e hv148 (fun hg149 hv148 => ?_)
        refine WO_step 6 [0, 1, 2, 3] [0, 1, 6, 7, 8, 9, 21, 22, 23] ((0 ≤ i111 ∧ i111 < ((x1.length : Nat) : Int)) ∧ (True ∧ (True ∧ (True ∧ True)))) ⟨[(0, .one (.e (.sl 0 0 x1.length))), (1, I i2), (6, .one (.e (.sl 1 0 x109.length))), (7, .one (.e (.sl 2 0 x110.length))), (8, I i111), (9, .one (.e (.p 3 0))), (21, .one (.e (.sl 0 0 x1.length))), (22, I ((x1.length : Nat) : Int)), (23, I i111)], [.row .nod x1 false, .row .int x109 true, .row .nod x110 true, .cells [cI ((x1.getD i111.toNat dnod).parent), cS ((x1.getD i111.toNat dnod).name), cI ((x1.getD i111.toNat dnod).value)]]⟩ (by kernel_rfl) ⟨hg149, trivial, trivial, trivial, trivial⟩ ?_
        refine WO_nil rfl ?_
        refine thenS_n ?_
        refine W_seq ?_
        refine W_seq ?_
        refine W_region ?_
        refine WO_step 3 [0, 1, 2, 3] [0, 1, 6, 7, 8, 9, 21, 22, 23, 28, 29, 30] True ⟨[(0, .one (.e (.sl 0 0 x1.length))), (1, I i2), (6, .one (.e (.sl 1 0 x109.length))), (7, .one (.e (.sl 2 0 x110.length))), (8, I i111), (9, .one (.e (.p 3 0))), (21, .one (.e (.sl 0 0 x1.length))), (22, I ((x1.length : Nat) : Int)), (23, I i111), (28, .one (.e (.sl 0 0 x1.length))), (29, I i2), (30, I i111)], [.row .nod x1 false, .row .int x109 true, .row .nod x110 true, .cells [cI ((x1.getD i111.toNat dnod).parent), cS ((x1.getD i111.toNat dnod).name), cI ((x1.getD i111.toNat dnod).value)]]⟩ (by kernel_rfl) trivial ?_
        refine bindO_e hv148 (fun b150 hc151 hv148 => ?_)
        refine WO_call [.ro 0] Try.f79 rfl rfl rfl (by kernel_rfl) Try.func79 rfl (by kernel_rfl) (impl_reaches_ok n x1 i2 i111 b150 hc151) (And.intro (And.intro rfl rfl) (trivial)) rfl ?_
        refine WO_sub [0, 1, 2, 3] [0, 1, 6, 7, 8, 9, 21, 22, 23, 31] (st' := ⟨[(0, .one (.e (.sl 0 0 x1.length))), (1, I i2), (6, .one (.e (.sl 1 0 x109.length))), (7, .one (.e (.sl 2 0 x110.length))), (8, I i111), (9, .one (.e (.p 3 0))), (21, .one (.e (.sl 0 0 x1.length))), (22, I ((x1.length : Nat) : Int)), (23, I i111), (31, B b150)], [.row .nod x1 false, .row .int x109 true, .row .nod x110 true, .cells [cI ((x1.getD i111.toNat dnod).parent), cS ((x1.getD i111.toNat dnod).name), cI ((x1.getD i111.toNat dnod).value)]]⟩) (by kernel_rfl) ?_
        refine WO_nil rfl ?_
        refine thenS_n ?_
        refine iteO_e hv148 (fun hb153 hv148 => W_true rfl hb153 ?_) (fun hb153 hv148 => W_false rfl hb153 ?_)
        · refine W_sub [0, 1, 2] [0, 1, 6, 7, 21, 22, 23] (st' := ⟨[(0, .one (.e (.sl 0 0 x1.length))), (1, I i2), (6, .one (.e (.sl 1 0 x109.length))), (7, .one (.e (.sl 2 0 x110.length))), (21, .one (.e (.sl 0 0 x1.length))), (22, I ((x1.length : Nat) : Int)), (23, I i111)], [.row .nod x1 false, .row .int x109 true, .row .nod x110 true]⟩) (by kernel_rfl) ?_
          refine W_exit ?_
          refine thenS_e ?_
          refine blockS_y ?_
          cases hv148
          exact And.intro rfl rfl
        · refine W_sub [0, 1, 2, 3] [0, 1, 6, 7, 8, 9, 21, 22, 23] (st' := ⟨[(0, .one (.e (.sl 0 0 x1.length))), (1, I i2), (6, .one (.e (.sl 1 0 x109.length))), (7, .one (.e (.sl 2 0 x110.length))), (8, I i111), (9, .one (.e (.p 3 0))), (21, .one (.e (.sl 0 0 x1.length))), (22, I ((x1.length : Nat) : Int)), (23, I i111)], [.row .nod x1 false, .row .int x109 true, .row .nod x110 true, .cells [cI ((x1.getD i111.toNat dnod).parent), cS ((x1.getD i111.toNat dnod).name), cI ((x1.getD i111.toNat dnod).value)]]⟩) (by kernel_rfl) ?_
          refine W_skip ?_
          refine thenS_n ?_
          refine W_seq ?_
          refine W_region ?_
          refine guardO_e hv148 (fun hg154 hv148 => ?_)
          refine WO_step 6 [0, 1, 2, 3] [0, 1, 6, 7, 8, 9, 21, 22, 23] (True ∧ ((0 ≤ i111 ∧ i111 < ((x109.length : Nat) : Int)) ∧ (True ∧ True))) ⟨[(0, .one (.e (.sl 0 0 x1.length))), (1, I i2), (6, .one (.e (.sl 1 0 x109.length))), (7, .one (.e (.sl 2 0 x110.length))), (8, I i111), (9, .one (.e (.p 3 0))), (21, .one (.e (.sl 0 0 x1.length))), (22, I ((x1.length : Nat) : Int)), (23, I i111)], [.row .nod x1 false, .row .int (x109.set i111.toNat ((x110.length : Nat) : Int)) true, .row .nod x110 true, .cells [cI ((x1.getD i111.toNat dnod).parent), cS ((x1.getD i111.toNat dnod).name), cI ((x1.getD i111.toNat dnod).value)]]⟩ (by kernel_rfl) ⟨trivial, hg154, trivial, trivial⟩ ?_
          refine WO_eq (st' := ⟨[(0, .one (.e (.sl 0 0 x1.length))), (1, I i2), (6, .one (.e (.sl 1 0 ((x109.set i111.toNat ((x110.length : Nat) : Int)).length)))), (7, .one (.e (.sl 2 0 x110.length))), (8, I i111), (9, .one (.e (.p 3 0))), (21, .one (.e (.sl 0 0 x1.length))), (22, I ((x1.length : Nat) : Int)), (23, I i111)], [.row .nod x1 false, .row .int (x109.set i111.toNat ((x110.length : Nat) : Int)) true, .row .nod x110 true, .cells [cI ((x1.getD i111.toNat dnod).parent), cS ((x1.getD i111.toNat dnod).name), cI ((x1.getD i111.toNat dnod).value)]]⟩) (by simp only [List.length_set]) ?_
          refine WO_nil rfl ?_
          refine thenS_n ?_
          refine W_seq ?_
          refine W_seq ?_
          refine W_region ?_
          refine WO_step 2 [0, 1, 2, 3] [0, 1, 6, 7, 9, 21, 22, 23, 38] (True ∧ True) ⟨[(0, .one (.e (.sl 0 0 x1.length))), (1, I i2), (6, .one (.e (.sl 1 0 ((x109.set i111.toNat ((x110.length : Nat) : Int)).length)))), (7, .one (.e (.sl 2 0 x110.length))), (9, .one (.e (.p 3 0))), (21, .one (.e (.sl 0 0 x1.length))), (22, I ((x1.length : Nat) : Int)), (23, I i111), (38, B (decide (0 < i111)))], [.row .nod x1 false, .row .int (x109.set i111.toNat ((x110.length : Nat) : Int)) true, .row .nod x110 true, .cells [cI ((x1.getD i111.toNat dnod).parent), cS ((x1.getD i111.toNat dnod).name), cI ((x1.getD i111.toNat dnod).value)]]⟩ (by kernel_rfl) ⟨trivial, trivial⟩ ?_
          refine WO_nil rfl ?_
          refine thenS_n ?_
          refine bindO_e hv148 (fun i157 hi157 hv148 => ?_)
          refine W_cut (Q' := fun (e : Exit) (s : St) => e = .normal ∧ s = ⟨[(0, .one (.e (.sl 0 0 x1.length))), (1, I i2), (6, .one (.e (.sl 1 0 ((x109.set i111.toNat ((x110.length : Nat) : Int)).length)))), (7, .one (.e (.sl 2 0 x110.length))), (9, .one (.e (.p 3 0))), (21, .one (.e (.sl 0 0 x1.length))), (22, I ((x1.length : Nat) : Int)), (23, I i111)], [.row .nod x1 false, .row .int (x109.set i111.toNat ((x110.length : Nat) : Int)) true, .row .nod x110 true, .cells [cI i157, cS ((x1.getD i111.toNat dnod).name), cI ((x1.getD i111.toNat dnod).value)]]⟩) ?_ ?_
          · refine iteO_e hi157 (fun hb159 hi157 => W_true rfl hb159 ?_) (fun hb159 hi157 => W_false rfl hb159 ?_)
            · refine W_region ?_
              refine guardO_e hi157 (fun hg160 hi157 => ?_)
              refine WO_step 7 [0, 1, 2, 3] [0, 1, 6, 7, 9, 21, 22, 23] (True ∧ ((0 ≤ (x1.getD i111.toNat dnod).parent ∧ (x1.getD i111.toNat dnod).parent < (((x109.set i111.toNat ((x110.length : Nat) : Int)).length : Nat) : Int)) ∧ (True ∧ (True ∧ True)))) ⟨[(0, .one (.e (.sl 0 0 x1.length))), (1, I i2), (6, .one (.e (.sl 1 0 ((x109.set i111.toNat ((x110.length : Nat) : Int)).length)))), (7, .one (.e (.sl 2 0 x110.length))), (9, .one (.e (.p 3 0))), (21, .one (.e (.sl 0 0 x1.length))), (22, I ((x1.length : Nat) : Int)), (23, I i111)], [.row .nod x1 false, .row .int (x109.set i111.toNat ((x110.length : Nat) : Int)) true, .row .nod x110 true, .cells [cI ((x109.set i111.toNat ((x110.length : Nat) : Int)).getD (((x1.getD i111.toNat dnod).parent).toNat) 0), cS ((x1.getD i111.toNat dnod).name), cI ((x1.getD i111.toNat dnod).value)]]⟩ (by kernel_rfl) ⟨trivial, hg160, trivial, trivial, trivial⟩ ?_
              refine WO_nil rfl ?_
              cases hi157
              exact And.intro rfl rfl
            · refine W_sub [0, 1, 2, 3] [0, 1, 6, 7, 9, 21, 22, 23] (st' := ⟨[(0, .one (.e (.sl 0 0 x1.length))), (1, I i2), (6, .one (.e (.sl 1 0 ((x109.set i111.toNat ((x110.length : Nat) : Int)).length)))), (7, .one (.e (.sl 2 0 x110.length))), (9, .one (.e (.p 3 0))), (21, .one (.e (.sl 0 0 x1.length))), (22, I ((x1.length : Nat) : Int)), (23, I i111)], [.row .nod x1 false, .row .int (x109.set i111.toNat ((x110.length : Nat) : Int)) true, .row .nod x110 true, .cells [cI ((x1.getD i111.toNat dnod).parent), cS ((x1.getD i111.toNat dnod).name), cI ((x1.getD i111.toNat dnod).value)]]⟩) (by kernel_rfl) ?_
              refine W_skip ?_
              cases hi157
              exact And.intro rfl rfl
          · rintro _ _ ⟨rfl, rfl⟩
            refine thenS_n ?_
            refine W_region ?_
            refine guardO_e hv148 (fun hg161 hv148 => ?_)
            refine WO_step 5 [0, 1, 5] [0, 1, 6, 7, 21, 22, 23] (True ∧ ((0 = 0 ∧ x110.length = x110.length ∧ x110.length + (([(⟨i157, (x1.getD i111.toNat dnod).name, (x1.getD i111.toNat dnod).value⟩ : Nod)].drop 0).take ([(⟨i157, (x1.getD i111.toNat dnod).name, (x1.getD i111.toNat dnod).value⟩ : Nod)].length)).length ≤ 1099511627776) ∧ True)) ⟨[(0, .one (.e (.sl 0 0 x1.length))), (1, I i2), (6, .one (.e (.sl 1 0 ((x109.set i111.toNat ((x110.length : Nat) : Int)).length)))), (7, .one (.e (.sl 2 0 ((x110 ++ (([(⟨i157, (x1.getD i111.toNat dnod).name, (x1.getD i111.toNat dnod).value⟩ : Nod)].drop 0).take ([(⟨i157, (x1.getD i111.toNat dnod).name, (x1.getD i111.toNat dnod).value⟩ : Nod)].length))).length)))), (21, .one (.e (.sl 0 0 x1.length))), (22, I ((x1.length : Nat) : Int)), (23, I i111)], [.row .nod x1 false, .row .int (x109.set i111.toNat ((x110.length : Nat) : Int)) true, .row .nod (x110 ++ (([(⟨i157, (x1.getD i111.toNat dnod).name, (x1.getD i111.toNat dnod).value⟩ : Nod)].drop 0).take ([(⟨i157, (x1.getD i111.toNat dnod).name, (x1.getD i111.toNat dnod).value⟩ : Nod)].length))) true]⟩ (by kernel_rfl) ⟨trivial, hg161, trivial⟩ ?_
            refine WO_nil rfl ?_
            refine blockS_n ?_
            cases hv148
            exact And.intro rfl rfl
      · obtain ⟨x146, x147⟩ := v148
        rintro _ _ ⟨rfl, rfl⟩
        refine thenS_n ?_
        refine W_region ?_
        refine WO_step 2 [0, 1, 2] [0, 1, 6, 7, 21, 22, 23] (True ∧ True) ⟨[(0, .one (.e (.sl 0 0 x1.length))), (1, I i2), (6, .one (.e (.sl 1 0 x146.length))), (7, .one (.e (.sl 2 0 x147.length))), (21, .one (.e (.sl 0 0 x1.length))), (22, I ((x1.length : Nat) : Int)), (23, I (w64 (i111 + 1)))], [.row .nod x1 false, .row .int x146 true, .row .nod x147 true]⟩ (by kernel_rfl) ⟨trivial, trivial⟩ ?_
        refine WO_nil rfl ?_
        refine thenS_n ?_
        exact ih _ _ _ h
    · refine W_sub [0, 2] [7] (st' := ⟨[(7, .one (.e (.sl 1 0 x110.length)))], [.row .nod x1 false, .row .nod x110 true]⟩) (by kernel_rfl) ?_
      refine W_exit ?_
      refine thenS_e ?_
      refine thenS_e ?_
      cases h
      exact And.intro rfl rfl

def impl_DropNode (n : Nat) (x1 : List Nod) (i2 : Int) : Option ((List Nod) × Bool) :=
 bindO (impl_isNode n x1 i2) fun b77 =>
 iteO ((!b77) || (decide (i2 = 0)))
 (some (([] : List Nod), false))
 (guardO ((((x1.length : Nat) : Int) : Int) = ((x1.length : Nat) : Int) ∧ 0 ≤ ((x1.length : Nat) : Int) ∧ ((x1.length : Nat) : Int) ≤ 1099511627776) <|
 bindO (impl_DropNode_L1 x1 i2 n (List.replicate (((x1.length : Nat) : Int).toNat) (0 : Int)) ([] : List Nod) 0) fun x131 =>
 some (x131, true))

theorem impl_DropNode_ok (n : Nat) (x1 : List Nod) (i2 : Int) (x75 : List Nod) (b76 : Bool) (h : impl_DropNode n x1 i2 = some (x75, b76)) : FOk EE 61 [.one (.e (.sl 0 0 x1.length)), I i2] [.row .nod x1 false] (.tup [.e (.sl 1 0 x75.length), .e (cB b76)]) [.row .nod x1 false, .row .nod x75 true] := by
  unfold impl_DropNode at h
  refine FOk_of_W 51 1 Try.func61 rfl rfl (Nat.le_of_ble_eq_true rfl) rfl (fun w X θ => ?_)
  refine W_seq ?_
  refine W_region ?_
  refine WO_step 2 [0] [0, 1] True ⟨[(0, .one (.e (.sl 0 0 x1.length))), (1, I i2)], [.row .nod x1 false]⟩ (by kernel_rfl) trivial ?_
  refine WO_nil rfl ?_
  refine thenS_n ?_
  refine W_seq ?_
  refine W_seq ?_
  refine W_region ?_
  refine WO_step 2 [0] [0, 1, 10, 11] True ⟨[(0, .one (.e (.sl 0 0 x1.length))), (1, I i2), (10, .one (.e (.sl 0 0 x1.length))), (11, I i2)], [.row .nod x1 false]⟩ (by kernel_rfl) trivial ?_
  refine bindO_e h (fun b77 hc78 h => ?_)
  refine WO_call [.ro 0] Try.f71 rfl rfl rfl (by kernel_rfl) Try.func71 rfl (by kernel_rfl) (impl_isNode_ok n x1 i2 b77 hc78) (And.intro (And.intro rfl rfl) (trivial)) rfl ?_
  refine WO_step 2 [0] [0, 1, 14] True ⟨[(0, .one (.e (.sl 0 0 x1.length))), (1, I i2), (14, B (!b77))], [.row .nod x1 false]⟩ (by kernel_rfl) trivial ?_
  refine WO_thru ⟨[(0, .one (.e (.sl 0 0 x1.length))), (1, I i2), (17, B ((!b77) || (decide (i2 = 0))))], [.row .nod x1 false]⟩ ?_ ?_
  · refine WO_if 14 rfl (fun hb81 => ?_) (fun hb81 => ?_)
    · refine WO_step 3 [0] [0, 1, 17] True ⟨[(0, .one (.e (.sl 0 0 x1.length))), (1, I i2), (17, B true)], [.row .nod x1 false]⟩ (by kernel_rfl) trivial ?_
      exact WO_nil rfl ⟨rfl, by first | rfl | (rw [hb81]; first | done | rfl)⟩
    · refine WO_step 3 [0] [0, 1, 17] (True ∧ True) ⟨[(0, .one (.e (.sl 0 0 x1.length))), (1, I i2), (17, B (decide (i2 = 0)))], [.row .nod x1 false]⟩ (by kernel_rfl) ⟨trivial, trivial⟩ ?_
      exact WO_nil rfl ⟨rfl, by first | rfl | (rw [hb81]; first | done | rfl)⟩
  · refine thenS_n ?_
    refine iteO_e h (fun hb83 h => W_true rfl hb83 ?_) (fun hb83 h => W_false rfl hb83 ?_)
    · refine W_seq ?_
      refine W_region ?_
      refine WO_step 2 [0] [4, 5] True ⟨[(4, .one (.e (.nsl))), (5, B false)], [.row .nod x1 false]⟩ (by kernel_rfl) trivial ?_
      refine WO_nilrow 4 .nod rfl ?_
      refine WO_sub [0, 1] [4, 5] (st' := ⟨[(4, .one (.e (.sl 1 0 (([] : List Nod).length)))), (5, B false)], [.row .nod x1 false, .row .nod ([] : List Nod) true]⟩) (by kernel_rfl) ?_
      refine WO_nil rfl ?_
      refine thenS_n ?_
      refine W_ret ?_
      refine thenS_r ?_
      cases h
      exact ⟨[0, 1], True, by kernel_rfl, trivial⟩
    · refine W_sub [0] [0, 1] (st' := ⟨[(0, .one (.e (.sl 0 0 x1.length))), (1, I i2)], [.row .nod x1 false]⟩) (by kernel_rfl) ?_
      refine W_skip ?_
      refine thenS_n ?_
      refine W_seq ?_
      refine W_region ?_
      refine guardO_e h (fun hg84 h => ?_)
      refine WO_step 4 [0, 1] [0, 1, 6] (True ∧ (((((x1.length : Nat) : Int) : Int) = ((x1.length : Nat) : Int) ∧ 0 ≤ ((x1.length : Nat) : Int) ∧ ((x1.length : Nat) : Int) ≤ 1099511627776) ∧ True)) ⟨[(0, .one (.e (.sl 0 0 x1.length))), (1, I i2), (6, .one (.e (.sl 1 0 ((List.replicate (((x1.length : Nat) : Int).toNat) (0 : Int)).length))))], [.row .nod x1 false, .row .int (List.replicate (((x1.length : Nat) : Int).toNat) (0 : Int)) true]⟩ (by kernel_rfl) ⟨trivial, hg84, trivial⟩ ?_
      refine WO_nil rfl ?_
      refine thenS_n ?_
      refine W_seq ?_
      refine W_region ?_
      refine WO_step 1 [0, 1] [0, 1, 6, 7] True ⟨[(0, .one (.e (.sl 0 0 x1.length))), (1, I i2), (6, .one (.e (.sl 1 0 ((List.replicate (((x1.length : Nat) : Int).toNat) (0 : Int)).length)))), (7, .one (.e (.nsl)))], [.row .nod x1 false, .row .int (List.replicate (((x1.length : Nat) : Int).toNat) (0 : Int)) true]⟩ (by kernel_rfl) trivial ?_
      refine WO_nilrow 7 .nod rfl ?_
      refine WO_sub [0, 1, 2] [0, 1, 6, 7] (st' := ⟨[(0, .one (.e (.sl 0 0 x1.length))), (1, I i2), (6, .one (.e (.sl 1 0 ((List.replicate (((x1.length : Nat) : Int).toNat) (0 : Int)).length)))), (7, .one (.e (.sl 2 0 (([] : List Nod).length))))], [.row .nod x1 false, .row .int (List.replicate (((x1.length : Nat) : Int).toNat) (0 : Int)) true, .row .nod ([] : List Nod) true]⟩) (by kernel_rfl) ?_
      refine WO_nil rfl ?_
      refine thenS_n ?_
      refine W_seq ?_
      refine W_seq ?_
      refine W_region ?_
      refine WO_step 3 [0, 1, 2] [0, 1, 6, 7, 21, 22, 23] (True ∧ True) ⟨[(0, .one (.e (.sl 0 0 x1.length))), (1, I i2), (6, .one (.e (.sl 1 0 ((List.replicate (((x1.length : Nat) : Int).toNat) (0 : Int)).length)))), (7, .one (.e (.sl 2 0 (([] : List Nod).length)))), (21, .one (.e (.sl 0 0 x1.length))), (22, I ((x1.length : Nat) : Int)), (23, I 0)], [.row .nod x1 false, .row .int (List.replicate (((x1.length : Nat) : Int).toNat) (0 : Int)) true, .row .nod ([] : List Nod) true]⟩ (by kernel_rfl) ⟨trivial, trivial⟩ ?_
      refine WO_nil rfl ?_
      refine thenS_n ?_
      refine W_block ?_
      refine W_loop ?_
      refine bindO_e h (fun x131 hx131 h => ?_)
      refine WL_cut (impl_DropNode_L1_ok w X θ x1 i2 x131 n (List.replicate (((x1.length : Nat) : Int).toNat) (0 : Int)) ([] : List Nod) 0 hx131) ?_
      rintro _ _ ⟨rfl, rfl⟩
      refine blockS_y ?_
      refine thenS_n ?_
      refine W_seq ?_
      refine W_region ?_
      refine WO_step 3 [0, 1] [4, 5] True ⟨[(4, .one (.e (.sl 1 0 x131.length))), (5, B true)], [.row .nod x1 false, .row .nod x131 true]⟩ (by kernel_rfl) trivial ?_
      refine WO_nil rfl ?_
      refine thenS_n ?_
      refine W_ret ?_
      cases h
      exact ⟨[0, 1], True, by kernel_rfl, trivial⟩

/- impl.SetValue -/
def impl_SetValue (n : Nat) (x1 : List Nod) (i2 : Int) (i3 : Int) : Option ((List Nod) × Bool) :=
 bindO (impl_isNode n x1 i2) fun b16 =>
 iteO ((!b16) || (!(impl_within i3 (-1000) 1000)))
 (some (([] : List Nod), false))
 (bindO (slices_Clone_Node x1) fun x23 =>
 guardO (0 ≤ i2 ∧ i2 < ((x23.length : Nat) : Int)) <|
 some ((x23.set i2.toNat (⟨(x23.getD i2.toNat dnod).parent, (x23.getD i2.toNat dnod).name, i3⟩ : Nod)), true))

theorem impl_SetValue_ok (n : Nat) (x1 : List Nod) (i2 : Int) (i3 : Int) (x14 : List Nod) (b15 : Bool) (h : impl_SetValue n x1 i2 i3 = some (x14, b15)) : FOk EE 62 [.one (.e (.sl 0 0 x1.length)), I i2, I i3] [.row .nod x1 false] (.tup [.e (.sl 1 0 x14.length), .e (cB b15)]) [.row .nod x1 false, .row .nod x14 true] := by
  unfold impl_SetValue at h
  refine FOk_of_W 26 1 Try.func62 rfl rfl (Nat.le_of_ble_eq_true rfl) rfl (fun w X θ => ?_)
  refine W_seq ?_
  refine W_region ?_
  refine WO_step 2 [0] [0, 1, 2] True ⟨[(0, .one (.e (.sl 0 0 x1.length))), (1, I i2), (2, I i3)], [.row .nod x1 false]⟩ (by kernel_rfl) trivial ?_
  refine WO_nil rfl ?_
  refine thenS_n ?_
  refine W_seq ?_
  refine W_seq ?_
  refine W_region ?_
  refine WO_step 2 [0] [0, 1, 2, 9, 10] True ⟨[(0, .one (.e (.sl 0 0 x1.length))), (1, I i2), (2, I i3), (9, .one (.e (.sl 0 0 x1.length))), (10, I i2)], [.row .nod x1 false]⟩ (by kernel_rfl) trivial ?_
  refine bindO_e h (fun b16 hc17 h => ?_)
  refine WO_call [.ro 0] Try.f71 rfl rfl rfl (by kernel_rfl) Try.func71 rfl (by kernel_rfl) (impl_isNode_ok n x1 i2 b16 hc17) (And.intro (And.intro rfl rfl) (trivial)) rfl ?_
  refine WO_step 2 [0] [0, 1, 2, 13] True ⟨[(0, .one (.e (.sl 0 0 x1.length))), (1, I i2), (2, I i3), (13, B (!b16))], [.row .nod x1 false]⟩ (by kernel_rfl) trivial ?_
  refine WO_thru ⟨[(0, .one (.e (.sl 0 0 x1.length))), (1, I i2), (2, I i3), (17, B ((!b16) || (!(impl_within i3 (-1000) 1000))))], [.row .nod x1 false]⟩ ?_ ?_
  · refine WO_if 13 rfl (fun hb20 => ?_) (fun hb20 => ?_)
    · refine WO_step 4 [0] [0, 1, 2, 17] True ⟨[(0, .one (.e (.sl 0 0 x1.length))), (1, I i2), (2, I i3), (17, B true)], [.row .nod x1 false]⟩ (by kernel_rfl) trivial ?_
      exact WO_nil rfl ⟨rfl, by first | rfl | (rw [hb20]; first | done | rfl)⟩
    · refine WO_step 1 [0] [0, 1, 2, 13, 14] True ⟨[(0, .one (.e (.sl 0 0 x1.length))), (1, I i2), (2, I i3), (13, B false), (14, I i3)], [.row .nod x1 false]⟩ (by kernel_rfl) trivial ?_
      refine WO_call [] Try.f39 rfl rfl rfl (by kernel_rfl) Try.func39 rfl (by kernel_rfl) (impl_within_ok i3 (-1000) 1000) (trivial) rfl ?_
      refine WO_step 2 [0] [0, 1, 2, 17] True ⟨[(0, .one (.e (.sl 0 0 x1.length))), (1, I i2), (2, I i3), (17, B (!(impl_within i3 (-1000) 1000)))], [.row .nod x1 false]⟩ (by kernel_rfl) trivial ?_
      exact WO_nil rfl ⟨rfl, by first | rfl | (rw [hb20]; first | done | rfl)⟩
  · refine thenS_n ?_
    refine iteO_e h (fun hb22 h => W_true rfl hb22 ?_) (fun hb22 h => W_false rfl hb22 ?_)
    · refine W_seq ?_
      refine W_region ?_
      refine WO_step 2 [0] [6, 7] True ⟨[(6, .one (.e (.nsl))), (7, B false)], [.row .nod x1 false]⟩ (by kernel_rfl) trivial ?_
      refine WO_nilrow 6 .nod rfl ?_
      refine WO_sub [0, 1] [6, 7] (st' := ⟨[(6, .one (.e (.sl 1 0 (([] : List Nod).length)))), (7, B false)], [.row .nod x1 false, .row .nod ([] : List Nod) true]⟩) (by kernel_rfl) ?_
      refine WO_nil rfl ?_
      refine thenS_n ?_
      refine W_ret ?_
      refine thenS_r ?_
      cases h
      exact ⟨[0, 1], True, by kernel_rfl, trivial⟩
    · refine W_sub [0] [0, 1, 2] (st' := ⟨[(0, .one (.e (.sl 0 0 x1.length))), (1, I i2), (2, I i3)], [.row .nod x1 false]⟩) (by kernel_rfl) ?_
      refine W_skip ?_
      refine thenS_n ?_
      refine W_seq ?_
      refine W_region ?_
      refine WO_step 1 [0] [1, 2, 18] True ⟨[(1, I i2), (2, I i3), (18, .one (.e (.sl 0 0 x1.length)))], [.row .nod x1 false]⟩ (by kernel_rfl) trivial ?_
      refine bindO_e h (fun x23 hc24 h => ?_)
      refine WO_call [.ro 0] Try.f35 rfl rfl rfl (by kernel_rfl) Try.func35 rfl (by kernel_rfl) (slices_Clone_Node_ok x1 x23 hc24) (And.intro (And.intro rfl rfl) (trivial)) rfl ?_
      refine WO_step 1 [0, 1] [1, 2, 8] True ⟨[(1, I i2), (2, I i3), (8, .one (.e (.sl 1 0 x23.length)))], [.row .nod x1 false, .row .nod x23 true]⟩ (by kernel_rfl) trivial ?_
      refine WO_nil rfl ?_
      refine thenS_n ?_
      refine W_seq ?_
      refine W_region ?_
      refine guardO_e h (fun hg25 h => ?_)
      refine WO_step 6 [0, 1] [8] ((0 ≤ i2 ∧ i2 < ((x23.length : Nat) : Int)) ∧ (True ∧ True)) ⟨[(8, .one (.e (.sl 1 0 x23.length)))], [.row .nod x1 false, .row .nod (x23.set i2.toNat (⟨(x23.getD i2.toNat dnod).parent, (x23.getD i2.toNat dnod).name, i3⟩ : Nod)) true]⟩ (by kernel_rfl) ⟨hg25, trivial, trivial⟩ ?_
      refine WO_eq (st' := ⟨[(8, .one (.e (.sl 1 0 ((x23.set i2.toNat (⟨(x23.getD i2.toNat dnod).parent, (x23.getD i2.toNat dnod).name, i3⟩ : Nod)).length))))], [.row .nod x1 false, .row .nod (x23.set i2.toNat (⟨(x23.getD i2.toNat dnod).parent, (x23.getD i2.toNat dnod).name, i3⟩ : Nod)) true]⟩) (by simp only [List.length_set]) ?_
      refine WO_nil rfl ?_
      refine thenS_n ?_
      refine W_seq ?_
      refine W_region ?_
      refine WO_step 3 [0, 1] [6, 7] True ⟨[(6, .one (.e (.sl 1 0 ((x23.set i2.toNat (⟨(x23.getD i2.toNat dnod).parent, (x23.getD i2.toNat dnod).name, i3⟩ : Nod)).length)))), (7, B true)], [.row .nod x1 false, .row .nod (x23.set i2.toNat (⟨(x23.getD i2.toNat dnod).parent, (x23.getD i2.toNat dnod).name, i3⟩ : Nod)) true]⟩ (by kernel_rfl) trivial ?_
      refine WO_nil rfl ?_
      refine thenS_n ?_
      refine W_ret ?_
      cases h
      exact ⟨[0, 1], True, by kernel_rfl, trivial⟩

/- bytealg.LastIndexByteString -/
def bytealg_LastIndexByteString_L1 (s1 : Str) (i2 : Int) : Nat → Int → Option ((Int) ⊕ (Unit))
| 0, _ => none
| n + 1, i48 =>
 iteO (decide (0 ≤ i48))
 (guardO (0 ≤ i48 ∧ i48 < ((s1.length : Nat) : Int)) <|
 iteO (decide (((s1.getD i48.toNat 0).toNat : Int) = i2))
 (some (.inl i48))
 (bytealg_LastIndexByteString_L1 s1 i2 n (w64 (i48 - 1))))
 (some (.inr ()))

theorem bytealg_LastIndexByteString_L1_ok (w : World) (X : Nat → Prop) (θ : List Loc) (s1 : Str) (i2 : Int) (v : (Int) ⊕ (Unit)) : ∀ (n : Nat) (i48 : Int), bytealg_LastIndexByteString_L1 s1 i2 n i48 = some v → WL EE ⟨w, X, θ, 19, 0⟩ (subC [1, 0, 1, 4, 4] (bodyC Try.f94)) (fun (e : Exit) (s : St) => (match v with | (.inl i58) => e = .ret ∧ s = ⟨[(4, I i58)], []⟩ | (.inr _) => e = .exit 0 ∧ s = ⟨[], []⟩ : Prop)) ⟨[(0, S s1), (1, U i2), (5, I i48)], []⟩ := by
  intro n
  induction n with
  | zero => intro _ h; exact none_e h
  | succ n ih =>
    intro i48 h
    rw [bytealg_LastIndexByteString_L1] at h
    refine WL_round ?_
    refine W_seq ?_
    refine W_seq ?_
    refine W_region ?_
    refine WO_step 2 [] [0, 1, 5, 10] (True ∧ True) ⟨[(0, S s1), (1, U i2), (5, I i48), (10, B (decide (0 ≤ i48)))], []⟩ (by kernel_rfl) ⟨trivial, trivial⟩ ?_
    refine WO_nil rfl ?_
    refine thenS_n ?_
    refine iteO_e h (fun hb61 h => W_true rfl hb61 ?_) (fun hb61 h => W_false rfl hb61 ?_)
    · refine W_sub [] [0, 1, 5] (st' := ⟨[(0, S s1), (1, U i2), (5, I i48)], []⟩) (by kernel_rfl) ?_
      refine W_skip ?_
      refine thenS_n ?_
      refine W_seq ?_
      refine W_block ?_
      refine W_seq ?_
      refine W_region ?_
      refine guardO_e h (fun hg65 h => ?_)
      refine WO_step 5 [] [0, 1, 5, 17] ((0 ≤ i48 ∧ i48 < ((s1.length : Nat) : Int)) ∧ (True ∧ True)) ⟨[(0, S s1), (1, U i2), (5, I i48), (17, B (decide (((s1.getD i48.toNat 0).toNat : Int) = i2)))], []⟩ (by kernel_rfl) ⟨hg65, trivial, trivial⟩ ?_
      refine WO_nil rfl ?_
      refine thenS_n ?_
      refine iteO_e h (fun hb67 h => W_true rfl hb67 ?_) (fun hb67 h => W_false rfl hb67 ?_)
      · refine W_seq ?_
        refine W_region ?_
        refine WO_step 2 [] [4] True ⟨[(4, I i48)], []⟩ (by kernel_rfl) trivial ?_
        refine WO_nil rfl ?_
        refine thenS_n ?_
        refine W_ret ?_
        refine blockS_r ?_
        refine thenS_r ?_
        refine thenS_r ?_
        cases h
        exact And.intro rfl rfl
      · refine W_sub [] [0, 1, 5] (st' := ⟨[(0, S s1), (1, U i2), (5, I i48)], []⟩) (by kernel_rfl) ?_
        refine W_skip ?_
        refine blockS_n ?_
        refine thenS_n ?_
        refine W_region ?_
        refine WO_step 3 [] [0, 1, 5] (True ∧ True) ⟨[(0, S s1), (1, U i2), (5, I (w64 (i48 - 1)))], []⟩ (by kernel_rfl) ⟨trivial, trivial⟩ ?_
        refine WO_nil rfl ?_
        refine thenS_n ?_
        exact ih _ h
    · refine W_sub [] [] (st' := ⟨[], []⟩) (by kernel_rfl) ?_
      refine W_exit ?_
      refine thenS_e ?_
      refine thenS_e ?_
      cases h
      exact And.intro rfl rfl

def bytealg_LastIndexByteString (n : Nat) (s1 : Str) (i2 : Int) : Option (Int) :=
 bindO (bytealg_LastIndexByteString_L1 s1 i2 n (w64 (((s1.length : Nat) : Int) - 1))) fun v68 =>
 match v68 with
 | (.inl i58) => (some i58)
 | (.inr _) => (some (-1))


theorem bytealg_LastIndexByteString_ok (n : Nat) (s1 : Str) (i2 : Int) (i35 : Int) (h : bytealg_LastIndexByteString n s1 i2 = some i35) : FOk EE 94 [S s1, U i2] [] (I i35) [] := by
  unfold bytealg_LastIndexByteString at h
  refine FOk_of_W 19 0 Try.func94 rfl rfl (Nat.le_of_ble_eq_true rfl) rfl (fun w X θ => ?_)
  refine W_seq ?_
  refine W_region ?_
  refine WO_step 1 [] [0, 1] True ⟨[(0, S s1), (1, U i2)], []⟩ (by kernel_rfl) trivial ?_
  refine WO_nil rfl ?_
  refine thenS_n ?_
  refine W_seq ?_
  refine W_seq ?_
  refine W_region ?_
  refine WO_step 4 [] [0, 1, 5] (True ∧ (True ∧ True)) ⟨[(0, S s1), (1, U i2), (5, I (w64 (((s1.length : Nat) : Int) - 1)))], []⟩ (by kernel_rfl) ⟨trivial, trivial, trivial⟩ ?_
  refine WO_nil rfl ?_
  refine thenS_n ?_
  refine W_block ?_
  refine W_loop ?_
  refine bindO_e h (fun v68 hv68 h => ?_)
  refine WL_cut (bytealg_LastIndexByteString_L1_ok w X θ s1 i2 v68 n (w64 (((s1.length : Nat) : Int) - 1)) hv68) ?_
  rcases v68 with i58 | _
  · rintro _ _ ⟨rfl, rfl⟩
    refine blockS_r ?_
    refine thenS_r ?_
    cases h
    exact ⟨[], True, by kernel_rfl, trivial⟩
  · rintro _ _ ⟨rfl, rfl⟩
    refine blockS_y ?_
    refine thenS_n ?_
    refine W_seq ?_
    refine W_region ?_
    refine WO_step 1 [] [4] True ⟨[(4, I (-1))], []⟩ (by kernel_rfl) trivial ?_
    refine WO_nil rfl ?_
    refine thenS_n ?_
    refine W_ret ?_
    cases h
    exact ⟨[], True, by kernel_rfl, trivial⟩

/- strings.LastIndexByte -/
def strings_LastIndexByte (n : Nat) (s1 : Str) (i2 : Int) : Option (Int) :=
 bindO (bytealg_LastIndexByteString n s1 i2) fun i6 =>
 some i6

theorem strings_LastIndexByte_ok (n : Nat) (s1 : Str) (i2 : Int) (i5 : Int) (h : strings_LastIndexByte n s1 i2 = some i5) : FOk EE 82 [S s1, U i2] [] (I i5) [] := by
  unfold strings_LastIndexByte at h
  refine FOk_of_W 8 0 Try.func82 rfl rfl (Nat.le_of_ble_eq_true rfl) rfl (fun w X θ => ?_)
  refine W_seq ?_
  refine W_region ?_
  refine WO_step 1 [] [0, 1] True ⟨[(0, S s1), (1, U i2)], []⟩ (by kernel_rfl) trivial ?_
  refine WO_nil rfl ?_
  refine thenS_n ?_
  refine W_seq ?_
  refine W_region ?_
  refine WO_step 2 [] [5, 6] True ⟨[(5, S s1), (6, U i2)], []⟩ (by kernel_rfl) trivial ?_
  refine bindO_e h (fun i6 hc7 h => ?_)
  refine WO_call [] Try.f94 rfl rfl rfl (by kernel_rfl) Try.func94 rfl (by kernel_rfl) (bytealg_LastIndexByteString_ok n s1 i2 i6 hc7) (trivial) rfl ?_
  refine WO_step 1 [] [4] True ⟨[(4, I i6)], []⟩ (by kernel_rfl) trivial ?_
  refine WO_nil rfl ?_
  refine thenS_n ?_
  refine W_ret ?_
  cases h
  exact ⟨[], True, by kernel_rfl, trivial⟩

/- impl.upperNode -/
def impl_upperNode (n : Nat) (x1 : List Nod) (s2 : Str) : Option (Int) :=
 bindO (strings_LastIndexByte n s2 47) fun i13 =>
 iteO (decide (i13 < 0))
 (some (-1))
 (iteO (decide (i13 = 0))
 (some 0)
 (guardO (0 ≤ i13 ∧ i13 ≤ ((s2.length : Nat) : Int)) <|
 bindO (impl_ResolvePath n x1 (s2.take i13.toNat)) fun i20 =>
 some i20))

theorem impl_upperNode_ok (n : Nat) (x1 : List Nod) (s2 : Str) (i12 : Int) (h : impl_upperNode n x1 s2 = some i12) : FOk EE 81 [.one (.e (.sl 0 0 x1.length)), S s2] [.row .nod x1 false] (I i12) [.row .nod x1 false] := by
  unfold impl_upperNode at h
  refine FOk_of_W 17 1 Try.func81 rfl rfl (Nat.le_of_ble_eq_true rfl) rfl (fun w X θ => ?_)
  refine W_seq ?_
  refine W_region ?_
  refine WO_step 1 [0] [0, 1] True ⟨[(0, .one (.e (.sl 0 0 x1.length))), (1, S s2)], [.row .nod x1 false]⟩ (by kernel_rfl) trivial ?_
  refine WO_nil rfl ?_
  refine thenS_n ?_
  refine W_seq ?_
  refine W_region ?_
  refine WO_step 1 [0] [0, 1, 6] True ⟨[(0, .one (.e (.sl 0 0 x1.length))), (1, S s2), (6, S s2)], [.row .nod x1 false]⟩ (by kernel_rfl) trivial ?_
  refine bindO_e h (fun i13 hc14 h => ?_)
  refine WO_call [] Try.f82 rfl rfl rfl (by kernel_rfl) Try.func82 rfl (by kernel_rfl) (strings_LastIndexByte_ok n s2 47 i13 hc14) (trivial) rfl ?_
  refine WO_step 1 [0] [0, 1, 5] True ⟨[(0, .one (.e (.sl 0 0 x1.length))), (1, S s2), (5, I i13)], [.row .nod x1 false]⟩ (by kernel_rfl) trivial ?_
  refine WO_nil rfl ?_
  refine thenS_n ?_
  refine W_seq ?_
  refine W_seq ?_
  refine W_region ?_
  refine WO_step 2 [0] [0, 1, 5, 9] (True ∧ True) ⟨[(0, .one (.e (.sl 0 0 x1.length))), (1, S s2), (5, I i13), (9, B (decide (i13 < 0)))], [.row .nod x1 false]⟩ (by kernel_rfl) ⟨trivial, trivial⟩ ?_
  refine WO_nil rfl ?_
  refine thenS_n ?_
  refine iteO_e h (fun hb16 h => W_true rfl hb16 ?_) (fun hb16 h => W_false rfl hb16 ?_)
  · refine W_seq ?_
    refine W_region ?_
    refine WO_step 1 [0] [4] True ⟨[(4, I (-1))], [.row .nod x1 false]⟩ (by kernel_rfl) trivial ?_
    refine WO_nil rfl ?_
    refine thenS_n ?_
    refine W_ret ?_
    refine thenS_r ?_
    cases h
    exact ⟨[0], True, by kernel_rfl, trivial⟩
  · refine W_sub [0] [0, 1, 5] (st' := ⟨[(0, .one (.e (.sl 0 0 x1.length))), (1, S s2), (5, I i13)], [.row .nod x1 false]⟩) (by kernel_rfl) ?_
    refine W_skip ?_
    refine thenS_n ?_
    refine W_seq ?_
    refine W_seq ?_
    refine W_region ?_
    refine WO_step 2 [0] [0, 1, 5, 11] (True ∧ True) ⟨[(0, .one (.e (.sl 0 0 x1.length))), (1, S s2), (5, I i13), (11, B (decide (i13 = 0)))], [.row .nod x1 false]⟩ (by kernel_rfl) ⟨trivial, trivial⟩ ?_
    refine WO_nil rfl ?_
    refine thenS_n ?_
    refine iteO_e h (fun hb18 h => W_true rfl hb18 ?_) (fun hb18 h => W_false rfl hb18 ?_)
    · refine W_seq ?_
      refine W_region ?_
      refine WO_step 1 [0] [4] True ⟨[(4, I 0)], [.row .nod x1 false]⟩ (by kernel_rfl) trivial ?_
      refine WO_nil rfl ?_
      refine thenS_n ?_
      refine W_ret ?_
      refine thenS_r ?_
      cases h
      exact ⟨[0], True, by kernel_rfl, trivial⟩
    · refine W_sub [0] [0, 1, 5] (st' := ⟨[(0, .one (.e (.sl 0 0 x1.length))), (1, S s2), (5, I i13)], [.row .nod x1 false]⟩) (by kernel_rfl) ?_
      refine W_skip ?_
      refine thenS_n ?_
      refine W_seq ?_
      refine W_region ?_
      refine guardO_e h (fun hg19 h => ?_)
      refine WO_step 4 [0] [12, 15] ((0 ≤ i13 ∧ i13 ≤ ((s2.length : Nat) : Int)) ∧ True) ⟨[(12, .one (.e (.sl 0 0 x1.length))), (15, S (s2.take i13.toNat))], [.row .nod x1 false]⟩ (by kernel_rfl) ⟨hg19, trivial⟩ ?_
      refine bindO_e h (fun i20 hc21 h => ?_)
      refine WO_call [.ro 0] Try.f14 rfl rfl rfl (by kernel_rfl) Try.func14 rfl (by kernel_rfl) (impl_ResolvePath_ok n x1 (s2.take i13.toNat) i20 hc21) (And.intro (And.intro rfl rfl) (trivial)) rfl ?_
      refine WO_step 1 [0] [4] True ⟨[(4, I i20)], [.row .nod x1 false]⟩ (by kernel_rfl) trivial ?_
      refine WO_nil rfl ?_
      refine thenS_n ?_
      refine W_ret ?_
      cases h
      exact ⟨[0], True, by kernel_rfl, trivial⟩

/- impl.AddNode -/
def impl_AddNode (n : Nat) (x1 : List Nod) (i2 : Int) (s3 : Str) (i4 : Int) : Option ((List Nod) × Int × Bool) :=
 bindO (impl_ValidTree n x1) fun b19 =>
 iteO (!b19)
 (some (([] : List Nod), (-1), false))
 (bindO (slices_Clone_Node x1) fun x23 =>
 guardO (0 = 0 ∧ x23.length = x23.length ∧ x23.length + (([(⟨i2, s3, i4⟩ : Nod)].drop 0).take ([(⟨i2, s3, i4⟩ : Nod)].length)).length ≤ 1099511627776) <|
 bindO (impl_ValidTree n (x23 ++ (([(⟨i2, s3, i4⟩ : Nod)].drop 0).take ([(⟨i2, s3, i4⟩ : Nod)].length)))) fun b26 =>
 iteO (!b26)
 (some (([] : List Nod), (-1), false))
 (some ((x23 ++ (([(⟨i2, s3, i4⟩ : Nod)].drop 0).take ([(⟨i2, s3, i4⟩ : Nod)].length))), ((x1.length : Nat) : Int), true)))

theorem impl_AddNode_ok (n : Nat) (x1 : List Nod) (i2 : Int) (s3 : Str) (i4 : Int) (x16 : List Nod) (i17 : Int) (b18 : Bool) (h : impl_AddNode n x1 i2 s3 i4 = some (x16, i17, b18)) : FOk EE 80 [.one (.e (.sl 0 0 x1.length)), I i2, S s3, I i4] [.row .nod x1 false] (.tup [.e (.sl 1 0 x16.length), .e (cI i17), .e (cB b18)]) [.row .nod x1 false, .row .nod x16 true] := by
  unfold impl_AddNode at h
  refine FOk_of_W 29 1 Try.func80 rfl rfl (Nat.le_of_ble_eq_true rfl) rfl (fun w X θ => ?_)
  refine W_seq ?_
  refine W_region ?_
  refine WO_step 3 [0] [0, 1, 2, 3] True ⟨[(0, .one (.e (.sl 0 0 x1.length))), (1, I i2), (2, S s3), (3, I i4)], [.row .nod x1 false]⟩ (by kernel_rfl) trivial ?_
  refine WO_nil rfl ?_
  refine thenS_n ?_
  refine W_seq ?_
  refine W_seq ?_
  refine W_region ?_
  refine WO_step 1 [0] [0, 1, 2, 3, 12] True ⟨[(0, .one (.e (.sl 0 0 x1.length))), (1, I i2), (2, S s3), (3, I i4), (12, .one (.e (.sl 0 0 x1.length)))], [.row .nod x1 false]⟩ (by kernel_rfl) trivial ?_
  refine bindO_e h (fun b19 hc20 h => ?_)
  refine WO_call [.ro 0] Try.f13 rfl rfl rfl (by kernel_rfl) Try.func13 rfl (by kernel_rfl) (impl_ValidTree_ok n x1 b19 hc20) (And.intro (And.intro rfl rfl) (trivial)) rfl ?_
  refine WO_step 1 [0] [0, 1, 2, 3, 14] True ⟨[(0, .one (.e (.sl 0 0 x1.length))), (1, I i2), (2, S s3), (3, I i4), (14, B (!b19))], [.row .nod x1 false]⟩ (by kernel_rfl) trivial ?_
  refine WO_nil rfl ?_
  refine thenS_n ?_
  refine iteO_e h (fun hb22 h => W_true rfl hb22 ?_) (fun hb22 h => W_false rfl hb22 ?_)
  · refine W_seq ?_
    refine W_region ?_
    refine WO_step 3 [0] [8, 9, 10] True ⟨[(8, .one (.e (.nsl))), (9, I (-1)), (10, B false)], [.row .nod x1 false]⟩ (by kernel_rfl) trivial ?_
    refine WO_nilrow 8 .nod rfl ?_
    refine WO_sub [0, 1] [8, 9, 10] (st' := ⟨[(8, .one (.e (.sl 1 0 (([] : List Nod).length)))), (9, I (-1)), (10, B false)], [.row .nod x1 false, .row .nod ([] : List Nod) true]⟩) (by kernel_rfl) ?_
    refine WO_nil rfl ?_
    refine thenS_n ?_
    refine W_ret ?_
    refine thenS_r ?_
    cases h
    exact ⟨[0, 1], True, by kernel_rfl, trivial⟩
  · refine W_sub [0] [0, 1, 2, 3] (st' := ⟨[(0, .one (.e (.sl 0 0 x1.length))), (1, I i2), (2, S s3), (3, I i4)], [.row .nod x1 false]⟩) (by kernel_rfl) ?_
    refine W_skip ?_
    refine thenS_n ?_
    refine W_seq ?_
    refine W_region ?_
    refine WO_step 1 [0] [0, 1, 2, 3, 15] True ⟨[(0, .one (.e (.sl 0 0 x1.length))), (1, I i2), (2, S s3), (3, I i4), (15, .one (.e (.sl 0 0 x1.length)))], [.row .nod x1 false]⟩ (by kernel_rfl) trivial ?_
    refine bindO_e h (fun x23 hc24 h => ?_)
    refine WO_call [.ro 0] Try.f35 rfl rfl rfl (by kernel_rfl) Try.func35 rfl (by kernel_rfl) (slices_Clone_Node_ok x1 x23 hc24) (And.intro (And.intro rfl rfl) (trivial)) rfl ?_
    refine guardO_e h (fun hg25 h => ?_)
    refine WO_step 7 [0, 3] [0, 11] ((0 = 0 ∧ x23.length = x23.length ∧ x23.length + (([(⟨i2, s3, i4⟩ : Nod)].drop 0).take ([(⟨i2, s3, i4⟩ : Nod)].length)).length ≤ 1099511627776) ∧ True) ⟨[(0, .one (.e (.sl 0 0 x1.length))), (11, .one (.e (.sl 1 0 ((x23 ++ (([(⟨i2, s3, i4⟩ : Nod)].drop 0).take ([(⟨i2, s3, i4⟩ : Nod)].length))).length))))], [.row .nod x1 false, .row .nod (x23 ++ (([(⟨i2, s3, i4⟩ : Nod)].drop 0).take ([(⟨i2, s3, i4⟩ : Nod)].length))) true]⟩ (by kernel_rfl) ⟨hg25, trivial⟩ ?_
    refine WO_nil rfl ?_
    refine thenS_n ?_
    refine W_seq ?_
    refine W_seq ?_
    refine W_region ?_
    refine WO_step 1 [0, 1] [0, 11, 23] True ⟨[(0, .one (.e (.sl 0 0 x1.length))), (11, .one (.e (.sl 1 0 ((x23 ++ (([(⟨i2, s3, i4⟩ : Nod)].drop 0).take ([(⟨i2, s3, i4⟩ : Nod)].length))).length)))), (23, .one (.e (.sl 1 0 ((x23 ++ (([(⟨i2, s3, i4⟩ : Nod)].drop 0).take ([(⟨i2, s3, i4⟩ : Nod)].length))).length))))], [.row .nod x1 false, .row .nod (x23 ++ (([(⟨i2, s3, i4⟩ : Nod)].drop 0).take ([(⟨i2, s3, i4⟩ : Nod)].length))) true]⟩ (by kernel_rfl) trivial ?_
    refine bindO_e h (fun b26 hc27 h => ?_)
    refine WO_call [.ro 1] Try.f13 rfl rfl rfl (by kernel_rfl) Try.func13 rfl (by kernel_rfl) (impl_ValidTree_ok n (x23 ++ (([(⟨i2, s3, i4⟩ : Nod)].drop 0).take ([(⟨i2, s3, i4⟩ : Nod)].length))) b26 hc27) (And.intro (And.intro rfl rfl) (trivial)) rfl ?_
    refine WO_step 1 [0, 1] [0, 11, 25] True ⟨[(0, .one (.e (.sl 0 0 x1.length))), (11, .one (.e (.sl 1 0 ((x23 ++ (([(⟨i2, s3, i4⟩ : Nod)].drop 0).take ([(⟨i2, s3, i4⟩ : Nod)].length))).length)))), (25, B (!b26))], [.row .nod x1 false, .row .nod (x23 ++ (([(⟨i2, s3, i4⟩ : Nod)].drop 0).take ([(⟨i2, s3, i4⟩ : Nod)].length))) true]⟩ (by kernel_rfl) trivial ?_
    refine WO_nil rfl ?_
    refine thenS_n ?_
    refine iteO_e h (fun hb29 h => W_true rfl hb29 ?_) (fun hb29 h => W_false rfl hb29 ?_)
    · refine W_seq ?_
      refine W_region ?_
      refine WO_step 3 [0] [8, 9, 10] True ⟨[(8, .one (.e (.nsl))), (9, I (-1)), (10, B false)], [.row .nod x1 false]⟩ (by kernel_rfl) trivial ?_
      refine WO_nilrow 8 .nod rfl ?_
      refine WO_sub [0, 1] [8, 9, 10] (st' := ⟨[(8, .one (.e (.sl 1 0 (([] : List Nod).length)))), (9, I (-1)), (10, B false)], [.row .nod x1 false, .row .nod ([] : List Nod) true]⟩) (by kernel_rfl) ?_
      refine WO_nil rfl ?_
      refine thenS_n ?_
      refine W_ret ?_
      refine thenS_r ?_
      cases h
      exact ⟨[0, 1], True, by kernel_rfl, trivial⟩
    · refine W_sub [0, 1] [0, 11] (st' := ⟨[(0, .one (.e (.sl 0 0 x1.length))), (11, .one (.e (.sl 1 0 ((x23 ++ (([(⟨i2, s3, i4⟩ : Nod)].drop 0).take ([(⟨i2, s3, i4⟩ : Nod)].length))).length))))], [.row .nod x1 false, .row .nod (x23 ++ (([(⟨i2, s3, i4⟩ : Nod)].drop 0).take ([(⟨i2, s3, i4⟩ : Nod)].length))) true]⟩) (by kernel_rfl) ?_
      refine W_skip ?_
      refine thenS_n ?_
      refine W_seq ?_
      refine W_region ?_
      refine WO_step 6 [0, 1] [8, 9, 10] (True ∧ True) ⟨[(8, .one (.e (.sl 1 0 ((x23 ++ (([(⟨i2, s3, i4⟩ : Nod)].drop 0).take ([(⟨i2, s3, i4⟩ : Nod)].length))).length)))), (9, I ((x1.length : Nat) : Int)), (10, B true)], [.row .nod x1 false, .row .nod (x23 ++ (([(⟨i2, s3, i4⟩ : Nod)].drop 0).take ([(⟨i2, s3, i4⟩ : Nod)].length))) true]⟩ (by kernel_rfl) ⟨trivial, trivial⟩ ?_
      refine WO_nil rfl ?_
      refine thenS_n ?_
      refine W_ret ?_
      cases h
      exact ⟨[0, 1], True, by kernel_rfl, trivial⟩

/- slices.Reverse[[]int,int] -/
def slices_Reverse_int_int_L1 (k2 : Nat) : Nat → (List Int) → Int → Int → Option ((List Int))
| 0, _, _, _ => none
| n + 1, x68, i69, i70 =>
 iteO (decide (i69 < i70))
 (guardO (0 ≤ i70 ∧ i70 < ((k2 : Nat) : Int)) <|
 guardO (0 ≤ i69 ∧ i69 < ((k2 : Nat) : Int)) <|
 guardO (0 ≤ i69 ∧ i69 < ((k2 : Nat) : Int)) <|
 guardO (0 ≤ i70 ∧ i70 < ((k2 : Nat) : Int)) <|
 slices_Reverse_int_int_L1 k2 n ((x68.set i69.toNat (x68.getD i70.toNat 0)).set i70.toNat (x68.getD i69.toNat 0)) (w64 (i69 + 1)) (w64 (i70 - 1)))
 (some x68)

theorem slices_Reverse_int_int_L1_ok (w : World) (X : Nat → Prop) (θ : List Loc) (k2 : Nat) (x84 : (List Int)) : ∀ (n : Nat) (x68 : List Int) (i69 : Int) (i70 : Int), slices_Reverse_int_int_L1 k2 n x68 i69 i70 = some x84 → WL EE ⟨w, X, θ, 28, 1⟩ (subC [1, 4, 4] (bodyC Try.f92)) (fun (e : Exit) (s : St) => e = .exit 0 ∧ s = ⟨[], [.row .int x84 true]⟩) ⟨[(0, .one (.e (.sl 0 0 k2))), (2, I i69), (3, I i70)], [.row .int x68 true]⟩ := by
  intro n
  induction n with
  | zero => intro _ _ _ h; exact none_e h
  | succ n ih =>
    intro x68 i69 i70 h
    rw [slices_Reverse_int_int_L1] at h
    refine WL_round ?_
    refine W_seq ?_
    refine W_seq ?_
    refine W_region ?_
    refine WO_step 3 [0] [0, 2, 3, 9] (True ∧ True) ⟨[(0, .one (.e (.sl 0 0 k2))), (2, I i69), (3, I i70), (9, B (decide (i69 < i70)))], [.row .int x68 true]⟩ (by kernel_rfl) ⟨trivial, trivial⟩ ?_
    refine WO_nil rfl ?_
    refine thenS_n ?_
    refine iteO_e h (fun hb87 h => W_true rfl hb87 ?_) (fun hb87 h => W_false rfl hb87 ?_)
    · refine W_sub [0] [0, 2, 3] (st' := ⟨[(0, .one (.e (.sl 0 0 k2))), (2, I i69), (3, I i70)], [.row .int x68 true]⟩) (by kernel_rfl) ?_
      refine W_skip ?_
      refine thenS_n ?_
      refine W_seq ?_
      refine W_block ?_
      refine guardO_e h (fun hg92 h => ?_)
      refine guardO_e h (fun hg93 h => ?_)
      refine guardO_e h (fun hg94 h => ?_)
      refine guardO_e h (fun hg95 h => ?_)
      refine W_cut (Q' := fun (e : Exit) (s : St) => e = .normal ∧ s = ⟨[(0, .one (.e (.sl 0 0 k2))), (2, I i69), (3, I i70)], [.row .int ((x68.set i69.toNat (x68.getD i70.toNat 0)).set i70.toNat (x68.getD i69.toNat 0)) true]⟩) ?_ ?_
      · refine W_draw [0] false (by kernel_rfl) (by kernel_rfl) ?_
        refine WD_takeK [0, 1, 2, 3, 4, 5, 8, 9] [0, 2, 3, 14, 15, 16, 17, 18, 19, 22, 23] [0, 2, 3, 14, 15, 16, 17, 18, 19, 22, 23] (φ := True) (ls' := #[true, true, true, true, true, true, false, false, true, true, false, false, false, false, false, false]) (Ts' := [(0, .one (.e (.sl 0 0 k2))), (2, I i69), (3, I i70), (14, .one (.e (.sl 0 0 k2))), (15, I i69), (16, .one (.e (.sl 0 0 k2))), (17, I i70), (18, .one (.e (.sl 0 0 k2))), (19, I i70), (22, .one (.e (.sl 0 0 k2))), (23, I i69)]) (st' := ⟨[(0, .one (.e (.sl 0 0 k2))), (2, I i69), (3, I i70), (14, .one (.e (.sl 0 0 k2))), (15, I i69), (16, .one (.e (.sl 0 0 k2))), (17, I i70), (18, .one (.e (.sl 0 0 k2))), (19, I i70), (22, .one (.e (.sl 0 0 k2))), (23, I i69)], [.row .int x68 true]⟩) (n2 := 8) (by kernel_rfl) trivial rfl ?_
        refine WD_all [6, 10] (n := 7) (by kernel_rfl) rfl (And.intro ?_ (?_))
        · refine WM_op (φ := 0 ≤ i70 ∧ i70 < ((k2 : Nat) : Int)) (v := .one (.e (.rp 0 i70.toNat 0))) (H' := [.row .int x68 true]) rfl rfl (by kernel_rfl) hg92 rfl (trivial) ?_
          refine WD_all [7, 10] (n := 6) (by kernel_rfl) rfl (And.intro ?_ (?_))
          · refine WM_op (φ := True) (v := I (x68.getD i70.toNat 0)) (H' := [.row .int x68 true]) rfl rfl (by kernel_rfl) trivial rfl (trivial) ?_
            refine WD_all [10] (n := 5) (by kernel_rfl) rfl ?_
            refine WM_op (φ := 0 ≤ i69 ∧ i69 < ((k2 : Nat) : Int)) (v := .one (.e (.rp 0 i69.toNat 0))) (H' := [.row .int x68 true]) rfl rfl (by kernel_rfl) hg93 rfl (trivial) ?_
            refine WD_all [11] (n := 4) (by kernel_rfl) rfl ?_
            refine WM_op (φ := True) (v := I (x68.getD i69.toNat 0)) (H' := [.row .int x68 true]) rfl rfl (by kernel_rfl) trivial rfl (trivial) ?_
            refine WD_all [12] (n := 3) (by kernel_rfl) rfl ?_
            refine WM_op (φ := 0 ≤ i69 ∧ i69 < ((k2 : Nat) : Int)) (v := .one (.e (.rp 0 i69.toNat 0))) (H' := [.row .int x68 true]) rfl rfl (by kernel_rfl) hg94 rfl (trivial) ?_
            refine WD_all [13] (n := 2) (by kernel_rfl) rfl ?_
            refine WM_store (u := .one (.e (.rp 0 i69.toNat 0))) (v := I (x68.getD i70.toNat 0)) (φ := True) (H' := [.row .int (x68.set i69.toNat (x68.getD i70.toNat 0)) true]) rfl rfl rfl rfl rfl (by kernel_rfl) trivial rfl (trivial) ?_
            refine WD_all [14] (n := 1) (by kernel_rfl) rfl ?_
            refine WM_op (φ := 0 ≤ i70 ∧ i70 < ((k2 : Nat) : Int)) (v := .one (.e (.rp 0 i70.toNat 0))) (H' := [.row .int (x68.set i69.toNat (x68.getD i70.toNat 0)) true]) rfl rfl (by kernel_rfl) hg95 rfl (trivial) ?_
            refine WD_all [15] (n := 0) (by kernel_rfl) rfl ?_
            refine WM_store (u := .one (.e (.rp 0 i70.toNat 0))) (v := I (x68.getD i69.toNat 0)) (φ := True) (H' := [.row .int ((x68.set i69.toNat (x68.getD i70.toNat 0)).set i70.toNat (x68.getD i69.toNat 0)) true]) rfl rfl rfl rfl rfl (by kernel_rfl) trivial rfl (trivial) ?_
            exact WD_done [0] [0, 2, 3] (st' := ⟨[(0, .one (.e (.sl 0 0 k2))), (2, I i69), (3, I i70)], [.row .int ((x68.set i69.toNat (x68.getD i70.toNat 0)).set i70.toNat (x68.getD i69.toNat 0)) true]⟩) (by kernel_rfl) (by kernel_rfl) (And.intro rfl rfl)
          · refine WM_op (φ := 0 ≤ i69 ∧ i69 < ((k2 : Nat) : Int)) (v := .one (.e (.rp 0 i69.toNat 0))) (H' := [.row .int x68 true]) rfl rfl (by kernel_rfl) hg93 rfl (trivial) ?_
            refine WD_all [7, 11] (n := 5) (by kernel_rfl) rfl (And.intro ?_ (?_))
            · refine WM_op (φ := True) (v := I (x68.getD i70.toNat 0)) (H' := [.row .int x68 true]) rfl rfl (by kernel_rfl) trivial rfl (trivial) ?_
              refine WD_all [11] (n := 4) (by kernel_rfl) rfl ?_
              refine WM_op (φ := True) (v := I (x68.getD i69.toNat 0)) (H' := [.row .int x68 true]) rfl rfl (by kernel_rfl) trivial rfl (trivial) ?_
              refine WD_all [12] (n := 3) (by kernel_rfl) rfl ?_
              refine WM_op (φ := 0 ≤ i69 ∧ i69 < ((k2 : Nat) : Int)) (v := .one (.e (.rp 0 i69.toNat 0))) (H' := [.row .int x68 true]) rfl rfl (by kernel_rfl) hg94 rfl (trivial) ?_
              refine WD_all [13] (n := 2) (by kernel_rfl) rfl ?_
              refine WM_store (u := .one (.e (.rp 0 i69.toNat 0))) (v := I (x68.getD i70.toNat 0)) (φ := True) (H' := [.row .int (x68.set i69.toNat (x68.getD i70.toNat 0)) true]) rfl rfl rfl rfl rfl (by kernel_rfl) trivial rfl (trivial) ?_
              refine WD_all [14] (n := 1) (by kernel_rfl) rfl ?_
              refine WM_op (φ := 0 ≤ i70 ∧ i70 < ((k2 : Nat) : Int)) (v := .one (.e (.rp 0 i70.toNat 0))) (H' := [.row .int (x68.set i69.toNat (x68.getD i70.toNat 0)) true]) rfl rfl (by kernel_rfl) hg95 rfl (trivial) ?_
              refine WD_all [15] (n := 0) (by kernel_rfl) rfl ?_
              refine WM_store (u := .one (.e (.rp 0 i70.toNat 0))) (v := I (x68.getD i69.toNat 0)) (φ := True) (H' := [.row .int ((x68.set i69.toNat (x68.getD i70.toNat 0)).set i70.toNat (x68.getD i69.toNat 0)) true]) rfl rfl rfl rfl rfl (by kernel_rfl) trivial rfl (trivial) ?_
              exact WD_done [0] [0, 2, 3] (st' := ⟨[(0, .one (.e (.sl 0 0 k2))), (2, I i69), (3, I i70)], [.row .int ((x68.set i69.toNat (x68.getD i70.toNat 0)).set i70.toNat (x68.getD i69.toNat 0)) true]⟩) (by kernel_rfl) (by kernel_rfl) (And.intro rfl rfl)
            · refine WM_op (φ := True) (v := I (x68.getD i69.toNat 0)) (H' := [.row .int x68 true]) rfl rfl (by kernel_rfl) trivial rfl (trivial) ?_
              refine WD_all [7] (n := 4) (by kernel_rfl) rfl ?_
              refine WM_op (φ := True) (v := I (x68.getD i70.toNat 0)) (H' := [.row .int x68 true]) rfl rfl (by kernel_rfl) trivial rfl (trivial) ?_
              refine WD_all [12] (n := 3) (by kernel_rfl) rfl ?_
              refine WM_op (φ := 0 ≤ i69 ∧ i69 < ((k2 : Nat) : Int)) (v := .one (.e (.rp 0 i69.toNat 0))) (H' := [.row .int x68 true]) rfl rfl (by kernel_rfl) hg94 rfl (trivial) ?_
              refine WD_all [13] (n := 2) (by kernel_rfl) rfl ?_
              refine WM_store (u := .one (.e (.rp 0 i69.toNat 0))) (v := I (x68.getD i70.toNat 0)) (φ := True) (H' := [.row .int (x68.set i69.toNat (x68.getD i70.toNat 0)) true]) rfl rfl rfl rfl rfl (by kernel_rfl) trivial rfl (trivial) ?_
              refine WD_all [14] (n := 1) (by kernel_rfl) rfl ?_
              refine WM_op (φ := 0 ≤ i70 ∧ i70 < ((k2 : Nat) : Int)) (v := .one (.e (.rp 0 i70.toNat 0))) (H' := [.row .int (x68.set i69.toNat (x68.getD i70.toNat 0)) true]) rfl rfl (by kernel_rfl) hg95 rfl (trivial) ?_
              refine WD_all [15] (n := 0) (by kernel_rfl) rfl ?_
              refine WM_store (u := .one (.e (.rp 0 i70.toNat 0))) (v := I (x68.getD i69.toNat 0)) (φ := True) (H' := [.row .int ((x68.set i69.toNat (x68.getD i70.toNat 0)).set i70.toNat (x68.getD i69.toNat 0)) true]) rfl rfl rfl rfl rfl (by kernel_rfl) trivial rfl (trivial) ?_
              exact WD_done [0] [0, 2, 3] (st' := ⟨[(0, .one (.e (.sl 0 0 k2))), (2, I i69), (3, I i70)], [.row .int ((x68.set i69.toNat (x68.getD i70.toNat 0)).set i70.toNat (x68.getD i69.toNat 0)) true]⟩) (by kernel_rfl) (by kernel_rfl) (And.intro rfl rfl)
        · refine WM_op (φ := 0 ≤ i69 ∧ i69 < ((k2 : Nat) : Int)) (v := .one (.e (.rp 0 i69.toNat 0))) (H' := [.row .int x68 true]) rfl rfl (by kernel_rfl) hg93 rfl (trivial) ?_
          refine WD_all [6, 11] (n := 6) (by kernel_rfl) rfl (And.intro ?_ (?_))
          · refine WM_op (φ := 0 ≤ i70 ∧ i70 < ((k2 : Nat) : Int)) (v := .one (.e (.rp 0 i70.toNat 0))) (H' := [.row .int x68 true]) rfl rfl (by kernel_rfl) hg92 rfl (trivial) ?_
            refine WD_all [7, 11] (n := 5) (by kernel_rfl) rfl (And.intro ?_ (?_))
            · refine WM_op (φ := True) (v := I (x68.getD i70.toNat 0)) (H' := [.row .int x68 true]) rfl rfl (by kernel_rfl) trivial rfl (trivial) ?_
              refine WD_all [11] (n := 4) (by kernel_rfl) rfl ?_
              refine WM_op (φ := True) (v := I (x68.getD i69.toNat 0)) (H' := [.row .int x68 true]) rfl rfl (by kernel_rfl) trivial rfl (trivial) ?_
              refine WD_all [12] (n := 3) (by kernel_rfl) rfl ?_
              refine WM_op (φ := 0 ≤ i69 ∧ i69 < ((k2 : Nat) : Int)) (v := .one (.e (.rp 0 i69.toNat 0))) (H' := [.row .int x68 true]) rfl rfl (by kernel_rfl) hg94 rfl (trivial) ?_
              refine WD_all [13] (n := 2) (by kernel_rfl) rfl ?_
              refine WM_store (u := .one (.e (.rp 0 i69.toNat 0))) (v := I (x68.getD i70.toNat 0)) (φ := True) (H' := [.row .int (x68.set i69.toNat (x68.getD i70.toNat 0)) true]) rfl rfl rfl rfl rfl (by kernel_rfl) trivial rfl (trivial) ?_
              refine WD_all [14] (n := 1) (by kernel_rfl) rfl ?_
              refine WM_op (φ := 0 ≤ i70 ∧ i70 < ((k2 : Nat) : Int)) (v := .one (.e (.rp 0 i70.toNat 0))) (H' := [.row .int (x68.set i69.toNat (x68.getD i70.toNat 0)) true]) rfl rfl (by kernel_rfl) hg95 rfl (trivial) ?_
              refine WD_all [15] (n := 0) (by kernel_rfl) rfl ?_
              refine WM_store (u := .one (.e (.rp 0 i70.toNat 0))) (v := I (x68.getD i69.toNat 0)) (φ := True) (H' := [.row .int ((x68.set i69.toNat (x68.getD i70.toNat 0)).set i70.toNat (x68.getD i69.toNat 0)) true]) rfl rfl rfl rfl rfl (by kernel_rfl) trivial rfl (trivial) ?_
              exact WD_done [0] [0, 2, 3] (st' := ⟨[(0, .one (.e (.sl 0 0 k2))), (2, I i69), (3, I i70)], [.row .int ((x68.set i69.toNat (x68.getD i70.toNat 0)).set i70.toNat (x68.getD i69.toNat 0)) true]⟩) (by kernel_rfl) (by kernel_rfl) (And.intro rfl rfl)
            · refine WM_op (φ := True) (v := I (x68.getD i69.toNat 0)) (H' := [.row .int x68 true]) rfl rfl (by kernel_rfl) trivial rfl (trivial) ?_
              refine WD_all [7] (n := 4) (by kernel_rfl) rfl ?_
              refine WM_op (φ := True) (v := I (x68.getD i70.toNat 0)) (H' := [.row .int x68 true]) rfl rfl (by kernel_rfl) trivial rfl (trivial) ?_
              refine WD_all [12] (n := 3) (by kernel_rfl) rfl ?_
              refine WM_op (φ := 0 ≤ i69 ∧ i69 < ((k2 : Nat) : Int)) (v := .one (.e (.rp 0 i69.toNat 0))) (H' := [.row .int x68 true]) rfl rfl (by kernel_rfl) hg94 rfl (trivial) ?_
              refine WD_all [13] (n := 2) (by kernel_rfl) rfl ?_
              refine WM_store (u := .one (.e (.rp 0 i69.toNat 0))) (v := I (x68.getD i70.toNat 0)) (φ := True) (H' := [.row .int (x68.set i69.toNat (x68.getD i70.toNat 0)) true]) rfl rfl rfl rfl rfl (by kernel_rfl) trivial rfl (trivial) ?_
              refine WD_all [14] (n := 1) (by kernel_rfl) rfl ?_
              refine WM_op (φ := 0 ≤ i70 ∧ i70 < ((k2 : Nat) : Int)) (v := .one (.e (.rp 0 i70.toNat 0))) (H' := [.row .int (x68.set i69.toNat (x68.getD i70.toNat 0)) true]) rfl rfl (by kernel_rfl) hg95 rfl (trivial) ?_
              refine WD_all [15] (n := 0) (by kernel_rfl) rfl ?_
              refine WM_store (u := .one (.e (.rp 0 i70.toNat 0))) (v := I (x68.getD i69.toNat 0)) (φ := True) (H' := [.row .int ((x68.set i69.toNat (x68.getD i70.toNat 0)).set i70.toNat (x68.getD i69.toNat 0)) true]) rfl rfl rfl rfl rfl (by kernel_rfl) trivial rfl (trivial) ?_
              exact WD_done [0] [0, 2, 3] (st' := ⟨[(0, .one (.e (.sl 0 0 k2))), (2, I i69), (3, I i70)], [.row .int ((x68.set i69.toNat (x68.getD i70.toNat 0)).set i70.toNat (x68.getD i69.toNat 0)) true]⟩) (by kernel_rfl) (by kernel_rfl) (And.intro rfl rfl)
          · refine WM_op (φ := True) (v := I (x68.getD i69.toNat 0)) (H' := [.row .int x68 true]) rfl rfl (by kernel_rfl) trivial rfl (trivial) ?_
            refine WD_all [6] (n := 5) (by kernel_rfl) rfl ?_
            refine WM_op (φ := 0 ≤ i70 ∧ i70 < ((k2 : Nat) : Int)) (v := .one (.e (.rp 0 i70.toNat 0))) (H' := [.row .int x68 true]) rfl rfl (by kernel_rfl) hg92 rfl (trivial) ?_
            refine WD_all [7] (n := 4) (by kernel_rfl) rfl ?_
            refine WM_op (φ := True) (v := I (x68.getD i70.toNat 0)) (H' := [.row .int x68 true]) rfl rfl (by kernel_rfl) trivial rfl (trivial) ?_
            refine WD_all [12] (n := 3) (by kernel_rfl) rfl ?_
            refine WM_op (φ := 0 ≤ i69 ∧ i69 < ((k2 : Nat) : Int)) (v := .one (.e (.rp 0 i69.toNat 0))) (H' := [.row .int x68 true]) rfl rfl (by kernel_rfl) hg94 rfl (trivial) ?_
            refine WD_all [13] (n := 2) (by kernel_rfl) rfl ?_
            refine WM_store (u := .one (.e (.rp 0 i69.toNat 0))) (v := I (x68.getD i70.toNat 0)) (φ := True) (H' := [.row .int (x68.set i69.toNat (x68.getD i70.toNat 0)) true]) rfl rfl rfl rfl rfl (by kernel_rfl) trivial rfl (trivial) ?_
            refine WD_all [14] (n := 1) (by kernel_rfl) rfl ?_
            refine WM_op (φ := 0 ≤ i70 ∧ i70 < ((k2 : Nat) : Int)) (v := .one (.e (.rp 0 i70.toNat 0))) (H' := [.row .int (x68.set i69.toNat (x68.getD i70.toNat 0)) true]) rfl rfl (by kernel_rfl) hg95 rfl (trivial) ?_
            refine WD_all [15] (n := 0) (by kernel_rfl) rfl ?_
            refine WM_store (u := .one (.e (.rp 0 i70.toNat 0))) (v := I (x68.getD i69.toNat 0)) (φ := True) (H' := [.row .int ((x68.set i69.toNat (x68.getD i70.toNat 0)).set i70.toNat (x68.getD i69.toNat 0)) true]) rfl rfl rfl rfl rfl (by kernel_rfl) trivial rfl (trivial) ?_
            exact WD_done [0] [0, 2, 3] (st' := ⟨[(0, .one (.e (.sl 0 0 k2))), (2, I i69), (3, I i70)], [.row .int ((x68.set i69.toNat (x68.getD i70.toNat 0)).set i70.toNat (x68.getD i69.toNat 0)) true]⟩) (by kernel_rfl) (by kernel_rfl) (And.intro rfl rfl)
      · rintro _ _ ⟨rfl, rfl⟩
        refine blockS_n ?_
        refine thenS_n ?_
        refine W_region ?_
        refine WO_step 6 [0] [0, 2, 3] (True ∧ (True ∧ True)) ⟨[(0, .one (.e (.sl 0 0 k2))), (2, I (w64 (i69 + 1))), (3, I (w64 (i70 - 1)))], [.row .int ((x68.set i69.toNat (x68.getD i70.toNat 0)).set i70.toNat (x68.getD i69.toNat 0)) true]⟩ (by kernel_rfl) ⟨trivial, trivial, trivial⟩ ?_
        refine WO_nil rfl ?_
        refine thenS_n ?_
        exact ih _ _ _ h
    · refine W_sub [0] [] (st' := ⟨[], [.row .int x68 true]⟩) (by kernel_rfl) ?_
      refine W_exit ?_
      refine thenS_e ?_
      refine thenS_e ?_
      cases h
      exact And.intro rfl rfl

def slices_Reverse_int_int (n : Nat) (x1 : List Int) (k2 : Nat) : Option ((List Int)) :=
 bindO (slices_Reverse_int_int_L1 k2 n x1 0 (w64 (((k2 : Nat) : Int) - 1))) fun x84 =>
 some x84

theorem slices_Reverse_int_int_ok (n : Nat) (x1 : List Int) (k2 : Nat) (x49 : List Int) (h : slices_Reverse_int_int n x1 k2 = some x49) : FOk EE 92 [.one (.e (.sl 0 0 k2))] [.row .int x1 true] (.tup []) [.row .int x49 true] := by
  unfold slices_Reverse_int_int at h
  refine FOk_of_W 28 1 Try.func92 rfl rfl (Nat.le_of_ble_eq_true rfl) rfl (fun w X θ => ?_)
  refine W_seq ?_
  refine W_region ?_
  refine WO_step 5 [0] [0, 2, 3] (True ∧ (True ∧ True)) ⟨[(0, .one (.e (.sl 0 0 k2))), (2, I 0), (3, I (w64 (((k2 : Nat) : Int) - 1)))], [.row .int x1 true]⟩ (by kernel_rfl) ⟨trivial, trivial, trivial⟩ ?_
  refine WO_nil rfl ?_
  refine thenS_n ?_
  refine W_block ?_
  refine W_loop ?_
  refine bindO_e h (fun x84 hx84 h => ?_)
  refine WL_cut (slices_Reverse_int_int_L1_ok w X θ k2 x84 n x1 0 (w64 (((k2 : Nat) : Int) - 1)) hx84) ?_
  rintro _ _ ⟨rfl, rfl⟩
  refine blockS_y ?_
  cases h
  exact ⟨[0], True, by kernel_rfl, trivial⟩

/- impl.PathTo -/
def impl_PathTo_L1 (x1 : List Nod) : Nat → (List Int) → Int → Option ((List Int))
| 0, _, _ => none
| n + 1, x53, i54 =>
 iteO (decide (0 ≤ i54))
 (guardO (0 = 0 ∧ x53.length = x53.length ∧ x53.length + (([i54].drop 0).take ([i54].length)).length ≤ 1099511627776) <|
 guardO (0 ≤ i54 ∧ i54 < ((x1.length : Nat) : Int)) <|
 impl_PathTo_L1 x1 n (x53 ++ (([i54].drop 0).take ([i54].length))) ((x1.getD i54.toNat dnod).parent))
 (some x53)

theorem impl_PathTo_L1_ok (w : World) (X : Nat → Prop) (θ : List Loc) (x1 : List Nod) (x62 : (List Int)) : ∀ (n : Nat) (x53 : List Int) (i54 : Int), impl_PathTo_L1 x1 n x53 i54 = some x62 → WL EE ⟨w, X, θ, 26, 1⟩ (subC [1, 1, 1, 0, 1, 4, 4] (bodyC Try.f73)) (fun (e : Exit) (s : St) => e = .exit 0 ∧ s = ⟨[(5, .one (.e (.sl 1 0 x62.length)))], [.row .nod x1 false, .row .int x62 true]⟩) ⟨[(0, .one (.e (.sl 0 0 x1.length))), (5, .one (.e (.sl 1 0 x53.length))), (6, I i54)], [.row .nod x1 false, .row .int x53 true]⟩ := by
  intro n
  induction n with
  | zero => intro _ _ h; exact none_e h
  | succ n ih =>
    intro x53 i54 h
    rw [impl_PathTo_L1] at h
    refine WL_round ?_
    refine W_seq ?_
    refine W_seq ?_
    refine W_region ?_
    refine WO_step 2 [0, 1] [0, 5, 6, 13] (True ∧ True) ⟨[(0, .one (.e (.sl 0 0 x1.length))), (5, .one (.e (.sl 1 0 x53.length))), (6, I i54), (13, B (decide (0 ≤ i54)))], [.row .nod x1 false, .row .int x53 true]⟩ (by kernel_rfl) ⟨trivial, trivial⟩ ?_
    refine WO_nil rfl ?_
    refine thenS_n ?_
    refine iteO_e h (fun hb65 h => W_true rfl hb65 ?_) (fun hb65 h => W_false rfl hb65 ?_)
    · refine W_sub [0, 1] [0, 5, 6] (st' := ⟨[(0, .one (.e (.sl 0 0 x1.length))), (5, .one (.e (.sl 1 0 x53.length))), (6, I i54)], [.row .nod x1 false, .row .int x53 true]⟩) (by kernel_rfl) ?_
      refine W_skip ?_
      refine thenS_n ?_
      refine W_seq ?_
      refine W_block ?_
      refine W_region ?_
      refine guardO_e h (fun hg67 h => ?_)
      refine WO_step 5 [0, 3] [0, 5, 6] ((0 = 0 ∧ x53.length = x53.length ∧ x53.length + (([i54].drop 0).take ([i54].length)).length ≤ 1099511627776) ∧ True) ⟨[(0, .one (.e (.sl 0 0 x1.length))), (5, .one (.e (.sl 1 0 ((x53 ++ (([i54].drop 0).take ([i54].length))).length)))), (6, I i54)], [.row .nod x1 false, .row .int (x53 ++ (([i54].drop 0).take ([i54].length))) true]⟩ (by kernel_rfl) ⟨hg67, trivial⟩ ?_
      refine WO_nil rfl ?_
      refine blockS_n ?_
      refine thenS_n ?_
      refine W_region ?_
      refine guardO_e h (fun hg68 h => ?_)
      refine WO_step 6 [0, 1] [0, 5, 6] ((0 ≤ i54 ∧ i54 < ((x1.length : Nat) : Int)) ∧ (True ∧ True)) ⟨[(0, .one (.e (.sl 0 0 x1.length))), (5, .one (.e (.sl 1 0 ((x53 ++ (([i54].drop 0).take ([i54].length))).length)))), (6, I ((x1.getD i54.toNat dnod).parent))], [.row .nod x1 false, .row .int (x53 ++ (([i54].drop 0).take ([i54].length))) true]⟩ (by kernel_rfl) ⟨hg68, trivial, trivial⟩ ?_
      refine WO_nil rfl ?_
      refine thenS_n ?_
      exact ih _ _ h
    · refine W_sub [0, 1] [5] (st' := ⟨[(5, .one (.e (.sl 1 0 x53.length)))], [.row .nod x1 false, .row .int x53 true]⟩) (by kernel_rfl) ?_
      refine W_exit ?_
      refine thenS_e ?_
      refine thenS_e ?_
      cases h
      exact And.intro rfl rfl

def impl_PathTo (n : Nat) (x1 : List Nod) (i2 : Int) : Option ((List Int)) :=
 bindO (impl_isNode n x1 i2) fun b38 =>
 iteO (!b38)
 (some ([] : List Int))
 (bindO (impl_PathTo_L1 x1 n ([] : List Int) i2) fun x62 =>
 bindO (slices_Reverse_int_int n x62 x62.length) fun x70 =>
 guardO (x62.length = x70.length) <|
 some x70)

theorem impl_PathTo_ok (n : Nat) (x1 : List Nod) (i2 : Int) (x37 : List Int) (h : impl_PathTo n x1 i2 = some x37) : FOk EE 73 [.one (.e (.sl 0 0 x1.length)), I i2] [.row .nod x1 false] (.one (.e (.sl 1 0 x37.length))) [.row .nod x1 false, .row .int x37 true] := by
  unfold impl_PathTo at h
  refine FOk_of_W 26 1 Try.func73 rfl rfl (Nat.le_of_ble_eq_true rfl) rfl (fun w X θ => ?_)
  refine W_seq ?_
  refine W_region ?_
  refine WO_step 1 [0] [0, 1] True ⟨[(0, .one (.e (.sl 0 0 x1.length))), (1, I i2)], [.row .nod x1 false]⟩ (by kernel_rfl) trivial ?_
  refine WO_nil rfl ?_
  refine thenS_n ?_
  refine W_seq ?_
  refine W_seq ?_
  refine W_region ?_
  refine WO_step 2 [0] [0, 1, 7, 8] True ⟨[(0, .one (.e (.sl 0 0 x1.length))), (1, I i2), (7, .one (.e (.sl 0 0 x1.length))), (8, I i2)], [.row .nod x1 false]⟩ (by kernel_rfl) trivial ?_
  refine bindO_e h (fun b38 hc39 h => ?_)
  refine WO_call [.ro 0] Try.f71 rfl rfl rfl (by kernel_rfl) Try.func71 rfl (by kernel_rfl) (impl_isNode_ok n x1 i2 b38 hc39) (And.intro (And.intro rfl rfl) (trivial)) rfl ?_
  refine WO_step 1 [0] [0, 1, 10] True ⟨[(0, .one (.e (.sl 0 0 x1.length))), (1, I i2), (10, B (!b38))], [.row .nod x1 false]⟩ (by kernel_rfl) trivial ?_
  refine WO_nil rfl ?_
  refine thenS_n ?_
  refine iteO_e h (fun hb41 h => W_true rfl hb41 ?_) (fun hb41 h => W_false rfl hb41 ?_)
  · refine W_seq ?_
    refine W_region ?_
    refine WO_step 1 [0] [4] True ⟨[(4, .one (.e (.nsl)))], [.row .nod x1 false]⟩ (by kernel_rfl) trivial ?_
    refine WO_nilrow 4 .int rfl ?_
    refine WO_sub [0, 1] [4] (st' := ⟨[(4, .one (.e (.sl 1 0 (([] : List Int).length))))], [.row .nod x1 false, .row .int ([] : List Int) true]⟩) (by kernel_rfl) ?_
    refine WO_nil rfl ?_
    refine thenS_n ?_
    refine W_ret ?_
    refine thenS_r ?_
    cases h
    exact ⟨[0, 1], True, by kernel_rfl, trivial⟩
  · refine W_sub [0] [0, 1] (st' := ⟨[(0, .one (.e (.sl 0 0 x1.length))), (1, I i2)], [.row .nod x1 false]⟩) (by kernel_rfl) ?_
    refine W_skip ?_
    refine thenS_n ?_
    refine W_seq ?_
    refine W_region ?_
    refine WO_step 1 [0] [0, 1, 5] True ⟨[(0, .one (.e (.sl 0 0 x1.length))), (1, I i2), (5, .one (.e (.nsl)))], [.row .nod x1 false]⟩ (by kernel_rfl) trivial ?_
    refine WO_nilrow 5 .int rfl ?_
    refine WO_sub [0, 1] [0, 1, 5] (st' := ⟨[(0, .one (.e (.sl 0 0 x1.length))), (1, I i2), (5, .one (.e (.sl 1 0 (([] : List Int).length))))], [.row .nod x1 false, .row .int ([] : List Int) true]⟩) (by kernel_rfl) ?_
    refine WO_nil rfl ?_
    refine thenS_n ?_
    refine W_seq ?_
    refine W_seq ?_
    refine W_region ?_
    refine WO_step 2 [0, 1] [0, 5, 6] True ⟨[(0, .one (.e (.sl 0 0 x1.length))), (5, .one (.e (.sl 1 0 (([] : List Int).length)))), (6, I i2)], [.row .nod x1 false, .row .int ([] : List Int) true]⟩ (by kernel_rfl) trivial ?_
    refine WO_nil rfl ?_
    refine thenS_n ?_
    refine W_block ?_
    refine W_loop ?_
    refine bindO_e h (fun x62 hx62 h => ?_)
    refine WL_cut (impl_PathTo_L1_ok w X θ x1 x62 n ([] : List Int) i2 hx62) ?_
    rintro _ _ ⟨rfl, rfl⟩
    refine blockS_y ?_
    refine thenS_n ?_
    refine W_seq ?_
    refine W_region ?_
    refine WO_step 1 [0, 1] [5, 23] True ⟨[(5, .one (.e (.sl 1 0 x62.length))), (23, .one (.e (.sl 1 0 x62.length)))], [.row .nod x1 false, .row .int x62 true]⟩ (by kernel_rfl) trivial ?_
    refine bindO_e h (fun x70 hc71 h => ?_)
    refine guardO_e h (fun hl72 h => ?_)
    refine WO_call [.own 1] Try.f92 rfl rfl rfl (by kernel_rfl) Try.func92 rfl (by kernel_rfl) (slices_Reverse_int_int_ok n x62 x62.length x70 hc71) (And.intro (And.intro rfl (And.intro rfl hl72)) (trivial)) rfl ?_
    refine WO_sub [0, 1] [5, 23] (st' := ⟨[(5, .one (.e (.sl 1 0 x62.length))), (23, .one (.e (.sl 1 0 x62.length)))], [.row .nod x1 false, .row .int x70 true]⟩) (by kernel_rfl) ?_
    refine WO_eq (st' := ⟨[(5, .one (.e (.sl 1 0 x70.length))), (23, .one (.e (.sl 1 0 x70.length)))], [.row .nod x1 false, .row .int x70 true]⟩) (by simp only [hl72]) ?_
    refine WO_sub [0, 1] [5] (st' := ⟨[(5, .one (.e (.sl 1 0 x70.length)))], [.row .nod x1 false, .row .int x70 true]⟩) (by kernel_rfl) ?_
    refine WO_nil rfl ?_
    refine thenS_n ?_
    refine W_seq ?_
    refine W_region ?_
    refine WO_step 2 [0, 1] [4] True ⟨[(4, .one (.e (.sl 1 0 x70.length)))], [.row .nod x1 false, .row .int x70 true]⟩ (by kernel_rfl) trivial ?_
    refine WO_nil rfl ?_
    refine thenS_n ?_
    refine W_ret ?_
    cases h
    exact ⟨[0, 1], True, by kernel_rfl, trivial⟩

/- (*strings.Builder).copyCheck -/
def lays240R : Shelf.Ren := ⟨fun n => match n with | 240 => 93 | 276 => 103 | _ => 0, fun n => match n with | 0 => 0 | 4 => 4 | 9 => 9 | 20 => 20 | 70 => 93 | 72 => 95 | 164 => 114 | 37 => 22 | 5 => 5 | _ => 0, fun n => n⟩
set_option maxRecDepth 100000 in
theorem lays240 : Lays.n240 Try.prog lays240R := {
  mixed := by kernel_rfl
  f240 := by kernel_rfl
  f276 := by kernel_rfl
  t0 := Try.underlying0
  a0 := Try.isAgg0
  z0 := Try.sizeOf0
  v0 := Try.zeroValue0
  t4 := Try.underlying4
  a4 := Try.isAgg4
  z4 := Try.sizeOf4
  v4 := Try.zeroValue4
  t9 := Try.underlying9
  a9 := Try.isAgg9
  z9 := Try.sizeOf9
  v9 := Try.zeroValue9
  t20 := Try.underlying20
  a20 := Try.isAgg20
  z20 := Try.sizeOf20
  v20 := Try.zeroValue20
  t70 := Try.underlying93
  a70 := Try.isAgg93
  z70 := Try.sizeOf93
  v70 := Try.zeroValue93
  t72 := Try.underlying95
  a72 := Try.isAgg95
  z72 := Try.sizeOf95
  v72 := Try.zeroValue95
  t164 := Try.underlying114
  a164 := Try.isAgg114
  z164 := Try.sizeOf114
  v164 := Try.zeroValue114 }
theorem x72 : Builder.X72 Try.prog lays240R := {
  sizeBuilder := by kernel_rfl
  liesBuilder := by kernel_rfl }
theorem copyCheck_ok (x1 : List Int) : FOk EE 93 [.one (.e (.p 0 0))] [.cells [.sp 0 95, .bsl 1 x1.length], .row .u8 x1 true] (.tup []) [.cells [.sp 0 95, .bsl 1 x1.length], .row .u8 x1 true] := by
  refine FOk_copy (fun b w h0 h1 h2 => ?_) (fun b w h0 => ?_) x1.length x1
  · exact Any.Builder_copyCheck_fresh lays240 x72 b w h0 h1 h2
  · exact Any.Builder_copyCheck_used lays240 x72 b w h0

/- (*strings.Builder).WriteByte -/
def strings_Builder_WriteByte (x1 : List Int) (i2 : Int) : Option ((List Int)) :=
 guardO (0 = 0 ∧ x1.length = x1.length ∧ x1.length + (([i2].drop 0).take ([i2].length)).length ≤ 1099511627776) <|
 some (x1 ++ (([i2].drop 0).take ([i2].length)))

theorem strings_Builder_WriteByte_ok (x1 : List Int) (i2 : Int) (x4 : List Int) (h : strings_Builder_WriteByte x1 i2 = some x4) : FOk EE 74 [.one (.e (.p 0 0)), U i2] [.cells [.sp 0 95, .bsl 1 x1.length], .row .u8 x1 true] (.one (.e (.nif))) [.cells [.sp 0 95, .bsl 2 x4.length], .dead, .row .u8 x4 true] := by
  unfold strings_Builder_WriteByte at h
  refine FOk_of_W 17 2 Try.func74 rfl rfl (Nat.le_of_ble_eq_true rfl) rfl (fun w X θ => ?_)
  refine W_seq ?_
  refine W_region ?_
  refine WO_step 1 [0, 1] [0, 1] True ⟨[(0, .one (.e (.p 0 0))), (1, U i2)], [.cells [.sp 0 95, .bsl 1 x1.length], .row .u8 x1 true]⟩ (by kernel_rfl) trivial ?_
  refine WO_nil rfl ?_
  refine thenS_n ?_
  refine W_seq ?_
  refine W_region ?_
  refine WO_step 1 [0, 1] [0, 1, 5] True ⟨[(0, .one (.e (.p 0 0))), (1, U i2), (5, .one (.e (.p 0 0)))], [.cells [.sp 0 95, .bsl 1 x1.length], .row .u8 x1 true]⟩ (by kernel_rfl) trivial ?_
  refine WO_call [.own 0, .own 1] Try.f93 rfl rfl rfl (by kernel_rfl) Try.func93 rfl (by kernel_rfl) (copyCheck_ok x1) (And.intro (trivial) (And.intro (And.intro rfl (And.intro rfl rfl)) (trivial))) rfl ?_
  refine WO_sub [0, 1] [0, 1] (st' := ⟨[(0, .one (.e (.p 0 0))), (1, U i2)], [.cells [.sp 0 95, .bsl 1 x1.length], .row .u8 x1 true]⟩) (by kernel_rfl) ?_
  refine WO_nil rfl ?_
  refine thenS_n ?_
  refine W_seq ?_
  refine W_region ?_
  refine guardO_e h (fun hg5 h => ?_)
  refine WO_step 11 [0, 1, 3] [] (True ∧ ((0 = 0 ∧ x1.length = x1.length ∧ x1.length + (([i2].drop 0).take ([i2].length)).length ≤ 1099511627776) ∧ (True ∧ True))) ⟨[], [.cells [.sp 0 95, .bsl 2 ((x1 ++ (([i2].drop 0).take ([i2].length))).length)], .dead, .row .u8 (x1 ++ (([i2].drop 0).take ([i2].length))) true]⟩ (by kernel_rfl) ⟨trivial, hg5, trivial, trivial⟩ ?_
  refine WO_nil rfl ?_
  refine thenS_n ?_
  refine W_seq ?_
  refine W_region ?_
  refine WO_step 1 [0, 1, 2] [4] True ⟨[(4, .one (.e (.nif)))], [.cells [.sp 0 95, .bsl 2 ((x1 ++ (([i2].drop 0).take ([i2].length))).length)], .dead, .row .u8 (x1 ++ (([i2].drop 0).take ([i2].length))) true]⟩ (by kernel_rfl) trivial ?_
  refine WO_nil rfl ?_
  refine thenS_n ?_
  refine W_ret ?_
  cases h
  exact ⟨[0, 1, 2], True, by kernel_rfl, trivial⟩

/- (*strings.Builder).WriteString -/
def strings_Builder_WriteString (x1 : List Int) (s2 : Str) : Option ((List Int) × Int) :=
 guardO (0 = 0 ∧ x1.length = x1.length ∧ x1.length + ((s2 : Str).map fun b => ((b.toNat : Nat) : Int)).length ≤ 1099511627776) <|
 some ((x1 ++ ((s2 : Str).map fun b => ((b.toNat : Nat) : Int))), ((s2.length : Nat) : Int))

theorem strings_Builder_WriteString_ok (x1 : List Int) (s2 : Str) (x4 : List Int) (i5 : Int) (h : strings_Builder_WriteString x1 s2 = some (x4, i5)) : FOk EE 75 [.one (.e (.p 0 0)), S s2] [.cells [.sp 0 95, .bsl 1 x1.length], .row .u8 x1 true] (.tup [.e (cI i5), .e (.nif)]) [.cells [.sp 0 95, .bsl 2 x4.length], .dead, .row .u8 x4 true] := by
  unfold strings_Builder_WriteString at h
  refine FOk_of_W 19 2 Try.func75 rfl rfl (Nat.le_of_ble_eq_true rfl) rfl (fun w X θ => ?_)
  refine W_seq ?_
  refine W_region ?_
  refine WO_step 2 [0, 1] [0, 1] True ⟨[(0, .one (.e (.p 0 0))), (1, S s2)], [.cells [.sp 0 95, .bsl 1 x1.length], .row .u8 x1 true]⟩ (by kernel_rfl) trivial ?_
  refine WO_nil rfl ?_
  refine thenS_n ?_
  refine W_seq ?_
  refine W_region ?_
  refine WO_step 1 [0, 1] [0, 1, 6] True ⟨[(0, .one (.e (.p 0 0))), (1, S s2), (6, .one (.e (.p 0 0)))], [.cells [.sp 0 95, .bsl 1 x1.length], .row .u8 x1 true]⟩ (by kernel_rfl) trivial ?_
  refine WO_call [.own 0, .own 1] Try.f93 rfl rfl rfl (by kernel_rfl) Try.func93 rfl (by kernel_rfl) (copyCheck_ok x1) (And.intro (trivial) (And.intro (And.intro rfl (And.intro rfl rfl)) (trivial))) rfl ?_
  refine WO_sub [0, 1] [0, 1] (st' := ⟨[(0, .one (.e (.p 0 0))), (1, S s2)], [.cells [.sp 0 95, .bsl 1 x1.length], .row .u8 x1 true]⟩) (by kernel_rfl) ?_
  refine WO_nil rfl ?_
  refine thenS_n ?_
  refine W_seq ?_
  refine W_region ?_
  refine guardO_e h (fun hg6 h => ?_)
  refine WO_step 10 [0, 1, 2] [1] (True ∧ ((0 = 0 ∧ x1.length = x1.length ∧ x1.length + ((s2 : Str).map fun b => ((b.toNat : Nat) : Int)).length ≤ 1099511627776) ∧ (True ∧ True))) ⟨[(1, S s2)], [.cells [.sp 0 95, .bsl 2 ((x1 ++ ((s2 : Str).map fun b => ((b.toNat : Nat) : Int))).length)], .dead, .row .u8 (x1 ++ ((s2 : Str).map fun b => ((b.toNat : Nat) : Int))) true]⟩ (by kernel_rfl) ⟨trivial, hg6, trivial, trivial⟩ ?_
  refine WO_nil rfl ?_
  refine thenS_n ?_
  refine W_seq ?_
  refine W_region ?_
  refine WO_step 4 [0, 1, 2] [4, 5] (True ∧ True) ⟨[(4, I ((s2.length : Nat) : Int)), (5, .one (.e (.nif)))], [.cells [.sp 0 95, .bsl 2 ((x1 ++ ((s2 : Str).map fun b => ((b.toNat : Nat) : Int))).length)], .dead, .row .u8 (x1 ++ ((s2 : Str).map fun b => ((b.toNat : Nat) : Int))) true]⟩ (by kernel_rfl) ⟨trivial, trivial⟩ ?_
  refine WO_nil rfl ?_
  refine thenS_n ?_
  refine W_ret ?_
  cases h
  exact ⟨[0, 1, 2], True, by kernel_rfl, trivial⟩

/- (*strings.Builder).String -/
def strings_Builder_String (x1 : List Int) : Option (Nat × Str) :=
 guardO (((x1.length : Nat) : Int) = (x1.length : Int) ∧ ∀ x ∈ x1, 0 ≤ x ∧ x ≤ 255) <|
 some (x1.length, (bytesOf x1))

theorem strings_Builder_String_ok (x1 : List Int) (k3 : Nat) (s4 : Str) (h : strings_Builder_String x1 = some (k3, s4)) : FOk EE 76 [.one (.e (.p 0 0))] [.cells [.sp 0 95, .bsl 1 x1.length], .row .u8 x1 true] (S s4) [.cells [.sp 0 95, .bsl 1 k3], .dead] := by
  unfold strings_Builder_String at h
  refine FOk_of_W 14 2 Try.func76 rfl rfl (Nat.le_of_ble_eq_true rfl) rfl (fun w X θ => ?_)
  refine W_seq ?_
  refine W_region ?_
  refine WO_step 1 [0, 1] [0] True ⟨[(0, .one (.e (.p 0 0)))], [.cells [.sp 0 95, .bsl 1 x1.length], .row .u8 x1 true]⟩ (by kernel_rfl) trivial ?_
  refine WO_nil rfl ?_
  refine thenS_n ?_
  refine W_seq ?_
  refine guardO_e h (fun hg5 h => ?_)
  refine W_cut (Q' := fun (e : Exit) (s : St) => e = .normal ∧ s = ⟨[(2, S (bytesOf x1))], [.cells [.sp 0 95, .bsl 1 x1.length], .dead]⟩) ?_ ?_
  · refine W_draw [1] false (by kernel_rfl) (by kernel_rfl) ?_
    refine WD_takeK [0, 1, 2, 5, 6, 7] [5, 10] [5, 10] (φ := True) (ls' := #[true, true, true, false, false, true, true, true, false, false, false, false]) (Ts' := [(5, .one (.e (.p 0 1))), (10, .one (.e (.p 0 1)))]) (st' := ⟨[(5, .one (.e (.p 0 1))), (10, .one (.e (.p 0 1)))], [.cells [.sp 0 95, .bsl 1 x1.length], .row .u8 x1 true]⟩) (n2 := 6) (by kernel_rfl) trivial rfl ?_
    refine WD_all [3, 8] (n := 5) (by kernel_rfl) rfl (And.intro ?_ (?_))
    · refine WM_op (φ := True) (v := .one (.e (.bsl 1 x1.length))) (H' := [.cells [.sp 0 95, .bsl 1 x1.length], .row .u8 x1 true]) rfl rfl (by kernel_rfl) trivial rfl (And.intro (And.intro rfl rfl) (trivial)) ?_
      refine WD_all [4, 8] (n := 4) (by kernel_rfl) rfl (And.intro ?_ (?_))
      · refine WM_op (φ := True) (v := .one (.e (.sd 1))) (H' := [.cells [.sp 0 95, .bsl 1 x1.length], .row .u8 x1 true]) rfl rfl (by kernel_rfl) trivial rfl (And.intro (And.intro rfl rfl) (trivial)) ?_
        refine WD_all [8] (n := 3) (by kernel_rfl) rfl ?_
        refine WM_op (φ := True) (v := .one (.e (.bsl 1 x1.length))) (H' := [.cells [.sp 0 95, .bsl 1 x1.length], .row .u8 x1 true]) rfl rfl (by kernel_rfl) trivial rfl (And.intro (And.intro rfl rfl) (trivial)) ?_
        refine WD_all [9] (n := 2) (by kernel_rfl) rfl ?_
        refine WM_op (φ := True) (v := I ((x1.length : Nat) : Int)) (H' := [.cells [.sp 0 95, .bsl 1 x1.length], .row .u8 x1 true]) rfl rfl (by kernel_rfl) trivial rfl (And.intro (And.intro rfl rfl) (trivial)) ?_
        refine WD_all [10] (n := 1) (by kernel_rfl) rfl ?_
        refine WM_op (φ := ((x1.length : Nat) : Int) = (x1.length : Int) ∧ ∀ x ∈ x1, 0 ≤ x ∧ x ≤ 255) (v := S (bytesOf x1)) (H' := [.cells [.sp 0 95, .bsl 1 x1.length], .dead]) rfl rfl (by kernel_rfl) hg5 rfl (And.intro (And.intro rfl rfl) (trivial)) ?_
        refine WD_takeK [11] [2] [2] (φ := True) (ls' := #[true, true, true, true, true, true, true, true, true, true, true, true]) (Ts' := [(2, S (bytesOf x1))]) (st' := ⟨[(2, S (bytesOf x1))], [.cells [.sp 0 95, .bsl 1 x1.length], .dead]⟩) (n2 := 0) (by kernel_rfl) trivial rfl ?_
        exact WD_done [0, 1] [2] (st' := ⟨[(2, S (bytesOf x1))], [.cells [.sp 0 95, .bsl 1 x1.length], .dead]⟩) (by kernel_rfl) (by kernel_rfl) (And.intro rfl rfl)
      · refine WM_op (φ := True) (v := .one (.e (.bsl 1 x1.length))) (H' := [.cells [.sp 0 95, .bsl 1 x1.length], .row .u8 x1 true]) rfl rfl (by kernel_rfl) trivial rfl (And.intro (And.intro rfl rfl) (trivial)) ?_
        refine WD_all [4, 9] (n := 3) (by kernel_rfl) rfl (And.intro ?_ (?_))
        · refine WM_op (φ := True) (v := .one (.e (.sd 1))) (H' := [.cells [.sp 0 95, .bsl 1 x1.length], .row .u8 x1 true]) rfl rfl (by kernel_rfl) trivial rfl (And.intro (And.intro rfl rfl) (trivial)) ?_
          refine WD_all [9] (n := 2) (by kernel_rfl) rfl ?_
          refine WM_op (φ := True) (v := I ((x1.length : Nat) : Int)) (H' := [.cells [.sp 0 95, .bsl 1 x1.length], .row .u8 x1 true]) rfl rfl (by kernel_rfl) trivial rfl (And.intro (And.intro rfl rfl) (trivial)) ?_
          refine WD_all [10] (n := 1) (by kernel_rfl) rfl ?_
          refine WM_op (φ := ((x1.length : Nat) : Int) = (x1.length : Int) ∧ ∀ x ∈ x1, 0 ≤ x ∧ x ≤ 255) (v := S (bytesOf x1)) (H' := [.cells [.sp 0 95, .bsl 1 x1.length], .dead]) rfl rfl (by kernel_rfl) hg5 rfl (And.intro (And.intro rfl rfl) (trivial)) ?_
          refine WD_takeK [11] [2] [2] (φ := True) (ls' := #[true, true, true, true, true, true, true, true, true, true, true, true]) (Ts' := [(2, S (bytesOf x1))]) (st' := ⟨[(2, S (bytesOf x1))], [.cells [.sp 0 95, .bsl 1 x1.length], .dead]⟩) (n2 := 0) (by kernel_rfl) trivial rfl ?_
          exact WD_done [0, 1] [2] (st' := ⟨[(2, S (bytesOf x1))], [.cells [.sp 0 95, .bsl 1 x1.length], .dead]⟩) (by kernel_rfl) (by kernel_rfl) (And.intro rfl rfl)
        · refine WM_op (φ := True) (v := I ((x1.length : Nat) : Int)) (H' := [.cells [.sp 0 95, .bsl 1 x1.length], .row .u8 x1 true]) rfl rfl (by kernel_rfl) trivial rfl (And.intro (And.intro rfl rfl) (trivial)) ?_
          refine WD_all [4] (n := 2) (by kernel_rfl) rfl ?_
          refine WM_op (φ := True) (v := .one (.e (.sd 1))) (H' := [.cells [.sp 0 95, .bsl 1 x1.length], .row .u8 x1 true]) rfl rfl (by kernel_rfl) trivial rfl (And.intro (And.intro rfl rfl) (trivial)) ?_
          refine WD_all [10] (n := 1) (by kernel_rfl) rfl ?_
          refine WM_op (φ := ((x1.length : Nat) : Int) = (x1.length : Int) ∧ ∀ x ∈ x1, 0 ≤ x ∧ x ≤ 255) (v := S (bytesOf x1)) (H' := [.cells [.sp 0 95, .bsl 1 x1.length], .dead]) rfl rfl (by kernel_rfl) hg5 rfl (And.intro (And.intro rfl rfl) (trivial)) ?_
          refine WD_takeK [11] [2] [2] (φ := True) (ls' := #[true, true, true, true, true, true, true, true, true, true, true, true]) (Ts' := [(2, S (bytesOf x1))]) (st' := ⟨[(2, S (bytesOf x1))], [.cells [.sp 0 95, .bsl 1 x1.length], .dead]⟩) (n2 := 0) (by kernel_rfl) trivial rfl ?_
          exact WD_done [0, 1] [2] (st' := ⟨[(2, S (bytesOf x1))], [.cells [.sp 0 95, .bsl 1 x1.length], .dead]⟩) (by kernel_rfl) (by kernel_rfl) (And.intro rfl rfl)
    · refine WM_op (φ := True) (v := .one (.e (.bsl 1 x1.length))) (H' := [.cells [.sp 0 95, .bsl 1 x1.length], .row .u8 x1 true]) rfl rfl (by kernel_rfl) trivial rfl (And.intro (And.intro rfl rfl) (trivial)) ?_
      refine WD_all [3, 9] (n := 4) (by kernel_rfl) rfl (And.intro ?_ (?_))
      · refine WM_op (φ := True) (v := .one (.e (.bsl 1 x1.length))) (H' := [.cells [.sp 0 95, .bsl 1 x1.length], .row .u8 x1 true]) rfl rfl (by kernel_rfl) trivial rfl (And.intro (And.intro rfl rfl) (trivial)) ?_
        refine WD_all [4, 9] (n := 3) (by kernel_rfl) rfl (And.intro ?_ (?_))
        · refine WM_op (φ := True) (v := .one (.e (.sd 1))) (H' := [.cells [.sp 0 95, .bsl 1 x1.length], .row .u8 x1 true]) rfl rfl (by kernel_rfl) trivial rfl (And.intro (And.intro rfl rfl) (trivial)) ?_
          refine WD_all [9] (n := 2) (by kernel_rfl) rfl ?_
          refine WM_op (φ := True) (v := I ((x1.length : Nat) : Int)) (H' := [.cells [.sp 0 95, .bsl 1 x1.length], .row .u8 x1 true]) rfl rfl (by kernel_rfl) trivial rfl (And.intro (And.intro rfl rfl) (trivial)) ?_
          refine WD_all [10] (n := 1) (by kernel_rfl) rfl ?_
          refine WM_op (φ := ((x1.length : Nat) : Int) = (x1.length : Int) ∧ ∀ x ∈ x1, 0 ≤ x ∧ x ≤ 255) (v := S (bytesOf x1)) (H' := [.cells [.sp 0 95, .bsl 1 x1.length], .dead]) rfl rfl (by kernel_rfl) hg5 rfl (And.intro (And.intro rfl rfl) (trivial)) ?_
          refine WD_takeK [11] [2] [2] (φ := True) (ls' := #[true, true, true, true, true, true, true, true, true, true, true, true]) (Ts' := [(2, S (bytesOf x1))]) (st' := ⟨[(2, S (bytesOf x1))], [.cells [.sp 0 95, .bsl 1 x1.length], .dead]⟩) (n2 := 0) (by kernel_rfl) trivial rfl ?_
          exact WD_done [0, 1] [2] (st' := ⟨[(2, S (bytesOf x1))], [.cells [.sp 0 95, .bsl 1 x1.length], .dead]⟩) (by kernel_rfl) (by kernel_rfl) (And.intro rfl rfl)
        · refine WM_op (φ := True) (v := I ((x1.length : Nat) : Int)) (H' := [.cells [.sp 0 95, .bsl 1 x1.length], .row .u8 x1 true]) rfl rfl (by kernel_rfl) trivial rfl (And.intro (And.intro rfl rfl) (trivial)) ?_
          refine WD_all [4] (n := 2) (by kernel_rfl) rfl ?_
          refine WM_op (φ := True) (v := .one (.e (.sd 1))) (H' := [.cells [.sp 0 95, .bsl 1 x1.length], .row .u8 x1 true]) rfl rfl (by kernel_rfl) trivial rfl (And.intro (And.intro rfl rfl) (trivial)) ?_
          refine WD_all [10] (n := 1) (by kernel_rfl) rfl ?_
          refine WM_op (φ := ((x1.length : Nat) : Int) = (x1.length : Int) ∧ ∀ x ∈ x1, 0 ≤ x ∧ x ≤ 255) (v := S (bytesOf x1)) (H' := [.cells [.sp 0 95, .bsl 1 x1.length], .dead]) rfl rfl (by kernel_rfl) hg5 rfl (And.intro (And.intro rfl rfl) (trivial)) ?_
          refine WD_takeK [11] [2] [2] (φ := True) (ls' := #[true, true, true, true, true, true, true, true, true, true, true, true]) (Ts' := [(2, S (bytesOf x1))]) (st' := ⟨[(2, S (bytesOf x1))], [.cells [.sp 0 95, .bsl 1 x1.length], .dead]⟩) (n2 := 0) (by kernel_rfl) trivial rfl ?_
          exact WD_done [0, 1] [2] (st' := ⟨[(2, S (bytesOf x1))], [.cells [.sp 0 95, .bsl 1 x1.length], .dead]⟩) (by kernel_rfl) (by kernel_rfl) (And.intro rfl rfl)
      · refine WM_op (φ := True) (v := I ((x1.length : Nat) : Int)) (H' := [.cells [.sp 0 95, .bsl 1 x1.length], .row .u8 x1 true]) rfl rfl (by kernel_rfl) trivial rfl (And.intro (And.intro rfl rfl) (trivial)) ?_
        refine WD_all [3] (n := 3) (by kernel_rfl) rfl ?_
        refine WM_op (φ := True) (v := .one (.e (.bsl 1 x1.length))) (H' := [.cells [.sp 0 95, .bsl 1 x1.length], .row .u8 x1 true]) rfl rfl (by kernel_rfl) trivial rfl (And.intro (And.intro rfl rfl) (trivial)) ?_
        refine WD_all [4] (n := 2) (by kernel_rfl) rfl ?_
        refine WM_op (φ := True) (v := .one (.e (.sd 1))) (H' := [.cells [.sp 0 95, .bsl 1 x1.length], .row .u8 x1 true]) rfl rfl (by kernel_rfl) trivial rfl (And.intro (And.intro rfl rfl) (trivial)) ?_
        refine WD_all [10] (n := 1) (by kernel_rfl) rfl ?_
        refine WM_op (φ := ((x1.length : Nat) : Int) = (x1.length : Int) ∧ ∀ x ∈ x1, 0 ≤ x ∧ x ≤ 255) (v := S (bytesOf x1)) (H' := [.cells [.sp 0 95, .bsl 1 x1.length], .dead]) rfl rfl (by kernel_rfl) hg5 rfl (And.intro (And.intro rfl rfl) (trivial)) ?_
        refine WD_takeK [11] [2] [2] (φ := True) (ls' := #[true, true, true, true, true, true, true, true, true, true, true, true]) (Ts' := [(2, S (bytesOf x1))]) (st' := ⟨[(2, S (bytesOf x1))], [.cells [.sp 0 95, .bsl 1 x1.length], .dead]⟩) (n2 := 0) (by kernel_rfl) trivial rfl ?_
        exact WD_done [0, 1] [2] (st' := ⟨[(2, S (bytesOf x1))], [.cells [.sp 0 95, .bsl 1 x1.length], .dead]⟩) (by kernel_rfl) (by kernel_rfl) (And.intro rfl rfl)
  · rintro _ _ ⟨rfl, rfl⟩
    refine thenS_n ?_
    refine W_ret ?_
    cases h
    exact ⟨[0, 1], True, by kernel_rfl, trivial⟩

/- impl.PathText -/
def impl_PathText_L1 (x1 : List Nod) (x81 : List Int) : Nat → (List Int) → Int → Option ((List Int))
| 0, _, _ => none
| n + 1, x112, i113 =>
 iteO (decide (i113 < (((x81.length - 1) : Nat) : Int)))
 (guardO (0 ≤ i113 ∧ i113 < (((x81.length - 1) : Nat) : Int)) <|
 bindO (strings_Builder_WriteByte x112 47) fun x147 =>
 guardO (0 ≤ (x81.getD (1 + i113.toNat) 0) ∧ (x81.getD (1 + i113.toNat) 0) < ((x1.length : Nat) : Int)) <|
 bindO (strings_Builder_WriteString x147 ((x1.getD ((x81.getD (1 + i113.toNat) 0).toNat) dnod).name)) fun (x150, i151) =>
 impl_PathText_L1 x1 x81 n x150 (w64 (i113 + 1)))
 (some x112)

theorem impl_PathText_L1_ok (w : World) (X : Nat → Prop) (θ : List Loc) (x1 : List Nod) (x81 : List Int) (x134 : (List Int)) : ∀ (n : Nat) (x112 : List Int) (i113 : Int), impl_PathText_L1 x1 x81 n x112 i113 = some x134 → WL EE ⟨w, X, θ, 34, 1⟩ (subC [1, 1, 1, 1, 1, 0, 1, 4, 4] (bodyC Try.f53)) (fun (e : Exit) (s : St) => e = .exit 0 ∧ s = ⟨[(6, .one (.e (.p 1 0)))], [.row .nod x1 false, .cells [.sp 1 95, .bsl 2 x134.length], .row .u8 x134 true]⟩) ⟨[(0, .one (.e (.sl 0 0 x1.length))), (6, .one (.e (.p 1 0))), (19, .one (.e (.sl 2 1 (x81.length - 1)))), (20, I (((x81.length - 1) : Nat) : Int)), (21, I i113)], [.row .nod x1 false, .cells [.sp 1 95, .bsl 3 x112.length], .row .int x81 true, .row .u8 x112 true]⟩ := by
  intro n
  induction n with
  | zero => intro _ _ h; exact none_e h
  | succ n ih =>
    intro x112 i113 h
    rw [impl_PathText_L1] at h
    refine WL_round ?_
    refine W_seq ?_
    refine W_region ?_
    refine WO_step 1 [0, 1, 2, 3] [0, 6, 19, 20, 21, 22] (True ∧ True) ⟨[(0, .one (.e (.sl 0 0 x1.length))), (6, .one (.e (.p 1 0))), (19, .one (.e (.sl 2 1 (x81.length - 1)))), (20, I (((x81.length - 1) : Nat) : Int)), (21, I i113), (22, B (decide (i113 < (((x81.length - 1) : Nat) : Int))))], [.row .nod x1 false, .cells [.sp 1 95, .bsl 3 x112.length], .row .int x81 true, .row .u8 x112 true]⟩ (by kernel_rfl) ⟨trivial, trivial⟩ ?_
    refine WO_nil rfl ?_
    refine thenS_n ?_
    refine W_seq ?_
    refine iteO_e h (fun hb137 h => W_true rfl hb137 ?_) (fun hb137 h => W_false rfl hb137 ?_)
    · refine W_sub [0, 1, 2, 3] [0, 6, 19, 20, 21] (st' := ⟨[(0, .one (.e (.sl 0 0 x1.length))), (6, .one (.e (.p 1 0))), (19, .one (.e (.sl 2 1 (x81.length - 1)))), (20, I (((x81.length - 1) : Nat) : Int)), (21, I i113)], [.row .nod x1 false, .cells [.sp 1 95, .bsl 3 x112.length], .row .int x81 true, .row .u8 x112 true]⟩) (by kernel_rfl) ?_
      refine W_skip ?_
      refine thenS_n ?_
      refine W_seq ?_
      refine W_block ?_
      refine W_seq ?_
      refine W_region ?_
      refine guardO_e h (fun hg146 h => ?_)
      refine WO_step 3 [0, 1, 2, 3] [0, 6, 8, 19, 20, 21] ((0 ≤ i113 ∧ i113 < (((x81.length - 1) : Nat) : Int)) ∧ (True ∧ True)) ⟨[(0, .one (.e (.sl 0 0 x1.length))), (6, .one (.e (.p 1 0))), (8, I (x81.getD (1 + i113.toNat) 0)), (19, .one (.e (.sl 2 1 (x81.length - 1)))), (20, I (((x81.length - 1) : Nat) : Int)), (21, I i113)], [.row .nod x1 false, .cells [.sp 1 95, .bsl 3 x112.length], .row .int x81 true, .row .u8 x112 true]⟩ (by kernel_rfl) ⟨hg146, trivial, trivial⟩ ?_
      refine WO_nil rfl ?_
      refine thenS_n ?_
      refine W_seq ?_
      refine W_region ?_
      refine bindO_e h (fun x147 hc148 h => ?_)
      refine WO_call [.own 1, .own 3] Try.f74 rfl rfl rfl (by kernel_rfl) Try.func74 rfl (by kernel_rfl) (strings_Builder_WriteByte_ok x112 47 x147 hc148) (And.intro (trivial) (And.intro (trivial) (trivial))) rfl ?_
      refine WO_sub [0, 1, 2, 4] [0, 6, 8, 19, 20, 21] (st' := ⟨[(0, .one (.e (.sl 0 0 x1.length))), (6, .one (.e (.p 1 0))), (8, I (x81.getD (1 + i113.toNat) 0)), (19, .one (.e (.sl 2 1 (x81.length - 1)))), (20, I (((x81.length - 1) : Nat) : Int)), (21, I i113)], [.row .nod x1 false, .cells [.sp 1 95, .bsl 3 x147.length], .row .int x81 true, .row .u8 x147 true]⟩) (by kernel_rfl) ?_
      refine WO_nil rfl ?_
      refine thenS_n ?_
      refine W_region ?_
      refine guardO_e h (fun hg149 h => ?_)
      refine WO_step 5 [0, 1, 2, 3] [0, 6, 19, 20, 21, 30] ((0 ≤ (x81.getD (1 + i113.toNat) 0) ∧ (x81.getD (1 + i113.toNat) 0) < ((x1.length : Nat) : Int)) ∧ (True ∧ True)) ⟨[(0, .one (.e (.sl 0 0 x1.length))), (6, .one (.e (.p 1 0))), (19, .one (.e (.sl 2 1 (x81.length - 1)))), (20, I (((x81.length - 1) : Nat) : Int)), (21, I i113), (30, S ((x1.getD ((x81.getD (1 + i113.toNat) 0).toNat) dnod).name))], [.row .nod x1 false, .cells [.sp 1 95, .bsl 3 x147.length], .row .int x81 true, .row .u8 x147 true]⟩ (by kernel_rfl) ⟨hg149, trivial, trivial⟩ ?_
      refine bindO_e h (fun v153 hc152 h => ?_)
      obtain ⟨x150, i151⟩ := v153
      refine WO_call [.own 1, .own 3] Try.f75 rfl rfl rfl (by kernel_rfl) Try.func75 rfl (by kernel_rfl) (strings_Builder_WriteString_ok x147 ((x1.getD ((x81.getD (1 + i113.toNat) 0).toNat) dnod).name) x150 i151 hc152) (And.intro (trivial) (And.intro (trivial) (trivial))) rfl ?_
      refine WO_sub [0, 1, 2, 4] [0, 6, 19, 20, 21] (st' := ⟨[(0, .one (.e (.sl 0 0 x1.length))), (6, .one (.e (.p 1 0))), (19, .one (.e (.sl 2 1 (x81.length - 1)))), (20, I (((x81.length - 1) : Nat) : Int)), (21, I i113)], [.row .nod x1 false, .cells [.sp 1 95, .bsl 3 x150.length], .row .int x81 true, .row .u8 x150 true]⟩) (by kernel_rfl) ?_
      refine WO_nil rfl ?_
      refine blockS_n ?_
      refine thenS_n ?_
      refine W_region ?_
      refine WO_step 2 [0, 1, 2, 3] [0, 6, 19, 20, 21] (True ∧ True) ⟨[(0, .one (.e (.sl 0 0 x1.length))), (6, .one (.e (.p 1 0))), (19, .one (.e (.sl 2 1 (x81.length - 1)))), (20, I (((x81.length - 1) : Nat) : Int)), (21, I (w64 (i113 + 1)))], [.row .nod x1 false, .cells [.sp 1 95, .bsl 3 x150.length], .row .int x81 true, .row .u8 x150 true]⟩ (by kernel_rfl) ⟨trivial, trivial⟩ ?_
      refine WO_nil rfl ?_
      refine thenS_n ?_
      exact ih _ _ h
    · refine W_sub [0, 1, 3] [6] (st' := ⟨[(6, .one (.e (.p 1 0)))], [.row .nod x1 false, .cells [.sp 1 95, .bsl 2 x112.length], .row .u8 x112 true]⟩) (by kernel_rfl) ?_
      refine W_exit ?_
      refine thenS_e ?_
      refine thenS_e ?_
      cases h
      exact And.intro rfl rfl

def impl_PathText (n : Nat) (x1 : List Nod) (i2 : Int) : Option (Str) :=
 bindO (impl_PathTo n x1 i2) fun x81 =>
 iteO (decide (((x81.length : Nat) : Int) = 0))
 (some [])
 (iteO (decide (((x81.length : Nat) : Int) = 1))
 (some [47])
 (guardO (0 ≤ (1 : Int) ∧ (1 : Int) ≤ ((x81.length : Nat) : Int)) <|
 bindO (impl_PathText_L1 x1 x81 n ([] : List Int) 0) fun x134 =>
 bindO (strings_Builder_String x134) fun (k155, s156) =>
 some s156))

theorem impl_PathText_ok (n : Nat) (x1 : List Nod) (i2 : Int) (s80 : Str) (h : impl_PathText n x1 i2 = some s80) : FOk EE 53 [.one (.e (.sl 0 0 x1.length)), I i2] [.row .nod x1 false] (S s80) [.row .nod x1 false] := by
  unfold impl_PathText at h
  refine FOk_of_W 34 1 Try.func53 rfl rfl (Nat.le_of_ble_eq_true rfl) rfl (fun w X θ => ?_)
  refine W_seq ?_
  refine W_region ?_
  refine WO_step 1 [0] [0, 1] True ⟨[(0, .one (.e (.sl 0 0 x1.length))), (1, I i2)], [.row .nod x1 false]⟩ (by kernel_rfl) trivial ?_
  refine WO_nil rfl ?_
  refine thenS_n ?_
  refine W_seq ?_
  refine W_region ?_
  refine WO_step 2 [0] [0, 9, 10] True ⟨[(0, .one (.e (.sl 0 0 x1.length))), (9, .one (.e (.sl 0 0 x1.length))), (10, I i2)], [.row .nod x1 false]⟩ (by kernel_rfl) trivial ?_
  refine bindO_e h (fun x81 hc82 h => ?_)
  refine WO_call [.ro 0] Try.f73 rfl rfl rfl (by kernel_rfl) Try.func73 rfl (by kernel_rfl) (impl_PathTo_ok n x1 i2 x81 hc82) (And.intro (And.intro rfl rfl) (trivial)) rfl ?_
  refine WO_step 1 [0, 1] [0, 5] True ⟨[(0, .one (.e (.sl 0 0 x1.length))), (5, .one (.e (.sl 1 0 x81.length)))], [.row .nod x1 false, .row .int x81 true]⟩ (by kernel_rfl) trivial ?_
  refine WO_nil rfl ?_
  refine thenS_n ?_
  refine W_seq ?_
  refine W_seq ?_
  refine W_region ?_
  refine WO_step 3 [0, 1] [0, 5, 14] (True ∧ (True ∧ True)) ⟨[(0, .one (.e (.sl 0 0 x1.length))), (5, .one (.e (.sl 1 0 x81.length))), (14, B (decide (((x81.length : Nat) : Int) = 0)))], [.row .nod x1 false, .row .int x81 true]⟩ (by kernel_rfl) ⟨trivial, trivial, trivial⟩ ?_
  refine WO_nil rfl ?_
  refine thenS_n ?_
  refine iteO_e h (fun hb84 h => W_true rfl hb84 ?_) (fun hb84 h => W_false rfl hb84 ?_)
  · refine W_seq ?_
    refine W_region ?_
    refine WO_step 1 [0] [4] True ⟨[(4, S [])], [.row .nod x1 false]⟩ (by kernel_rfl) trivial ?_
    refine WO_nil rfl ?_
    refine thenS_n ?_
    refine W_ret ?_
    refine thenS_r ?_
    cases h
    exact ⟨[0], True, by kernel_rfl, trivial⟩
  · refine W_sub [0, 1] [0, 5] (st' := ⟨[(0, .one (.e (.sl 0 0 x1.length))), (5, .one (.e (.sl 1 0 x81.length)))], [.row .nod x1 false, .row .int x81 true]⟩) (by kernel_rfl) ?_
    refine W_skip ?_
    refine thenS_n ?_
    refine W_seq ?_
    refine W_seq ?_
    refine W_region ?_
    refine WO_step 3 [0, 1] [0, 5, 17] (True ∧ (True ∧ True)) ⟨[(0, .one (.e (.sl 0 0 x1.length))), (5, .one (.e (.sl 1 0 x81.length))), (17, B (decide (((x81.length : Nat) : Int) = 1)))], [.row .nod x1 false, .row .int x81 true]⟩ (by kernel_rfl) ⟨trivial, trivial, trivial⟩ ?_
    refine WO_nil rfl ?_
    refine thenS_n ?_
    refine iteO_e h (fun hb86 h => W_true rfl hb86 ?_) (fun hb86 h => W_false rfl hb86 ?_)
    · refine W_seq ?_
      refine W_region ?_
      refine WO_step 1 [0] [4] True ⟨[(4, S [47])], [.row .nod x1 false]⟩ (by kernel_rfl) trivial ?_
      refine WO_nil rfl ?_
      refine thenS_n ?_
      refine W_ret ?_
      refine thenS_r ?_
      cases h
      exact ⟨[0], True, by kernel_rfl, trivial⟩
    · refine W_sub [0, 1] [0, 5] (st' := ⟨[(0, .one (.e (.sl 0 0 x1.length))), (5, .one (.e (.sl 1 0 x81.length)))], [.row .nod x1 false, .row .int x81 true]⟩) (by kernel_rfl) ?_
      refine W_skip ?_
      refine thenS_n ?_
      refine W_seq ?_
      refine W_region ?_
      refine WO_step 1 [0, 1, 2] [0, 5, 6] (True ∧ True) ⟨[(0, .one (.e (.sl 0 0 x1.length))), (5, .one (.e (.sl 1 0 x81.length))), (6, .one (.e (.p 2 0)))], [.row .nod x1 false, .row .int x81 true, .cells [.sp 2 95, .nsl]]⟩ (by kernel_rfl) ⟨trivial, trivial⟩ ?_
      refine WO_bld 2 rfl ?_
      refine WO_nil rfl ?_
      refine thenS_n ?_
      refine W_seq ?_
      refine W_seq ?_
      refine W_region ?_
      refine guardO_e h (fun hg87 h => ?_)
      refine WO_step 4 [0, 2, 1, 3] [0, 6, 19, 20, 21] ((0 ≤ (1 : Int) ∧ (1 : Int) ≤ ((x81.length : Nat) : Int)) ∧ (True ∧ True)) ⟨[(0, .one (.e (.sl 0 0 x1.length))), (6, .one (.e (.p 1 0))), (19, .one (.e (.sl 2 1 (x81.length - 1)))), (20, I (((x81.length - 1) : Nat) : Int)), (21, I 0)], [.row .nod x1 false, .cells [.sp 1 95, .bsl 3 (([] : List Int).length)], .row .int x81 true, .row .u8 ([] : List Int) true]⟩ (by kernel_rfl) ⟨hg87, trivial, trivial⟩ ?_
      refine WO_nil rfl ?_
      refine thenS_n ?_
      refine W_block ?_
      refine W_loop ?_
      refine bindO_e h (fun x134 hx134 h => ?_)
      refine WL_cut (impl_PathText_L1_ok w X θ x1 x81 x134 n ([] : List Int) 0 hx134) ?_
      rintro _ _ ⟨rfl, rfl⟩
      refine blockS_y ?_
      refine thenS_n ?_
      refine W_seq ?_
      refine W_region ?_
      refine bindO_e h (fun v158 hc157 h => ?_)
      obtain ⟨k155, s156⟩ := v158
      refine WO_call [.own 1, .own 2] Try.f76 rfl rfl rfl (by kernel_rfl) Try.func76 rfl (by kernel_rfl) (strings_Builder_String_ok x134 k155 s156 hc157) (And.intro (trivial) (And.intro (trivial) (trivial))) rfl ?_
      refine WO_step 1 [0] [4] True ⟨[(4, S s156)], [.row .nod x1 false]⟩ (by kernel_rfl) trivial ?_
      refine WO_nil rfl ?_
      refine thenS_n ?_
      refine W_ret ?_
      cases h
      exact ⟨[0], True, by kernel_rfl, trivial⟩

/- impl.addPath -/
def impl_addPath (n : Nat) (x1 : List Nod) (s2 : Str) (i3 : Int) : Option ((List Nod) × Bool) :=
 bindO (impl_upperNode n x1 s2) fun i26 =>
 bindO (strings_LastIndexByte n s2 47) fun i28 =>
 guardO (0 ≤ (w64 (i28 + 1)) ∧ (w64 (i28 + 1)) ≤ ((s2.length : Nat) : Int)) <|
 bindO (impl_AddNode n x1 i26 (s2.drop ((w64 (i28 + 1)).toNat)) i3) fun (x31, i32, b33) =>
 bindO (iteO (!b33)
 (some true)
 (bindO (impl_PathText n x31 i32) fun s41 =>
 some (!decide (s41 = s2)))) fun b38 =>
 iteO b38
 (some (([] : List Nod), false))
 (some (x31, true))

theorem impl_addPath_ok (n : Nat) (x1 : List Nod) (s2 : Str) (i3 : Int) (x24 : List Nod) (b25 : Bool) (h : impl_addPath n x1 s2 i3 = some (x24, b25)) : FOk EE 63 [.one (.e (.sl 0 0 x1.length)), S s2, I i3] [.row .nod x1 false] (.tup [.e (.sl 1 0 x24.length), .e (cB b25)]) [.row .nod x1 false, .row .nod x24 true] := by
  unfold impl_addPath at h
  refine FOk_of_W 36 1 Try.func63 rfl rfl (Nat.le_of_ble_eq_true rfl) rfl (fun w X θ => ?_)
  refine W_seq ?_
  refine W_region ?_
  refine WO_step 2 [0] [0, 1, 2] True ⟨[(0, .one (.e (.sl 0 0 x1.length))), (1, S s2), (2, I i3)], [.row .nod x1 false]⟩ (by kernel_rfl) trivial ?_
  refine WO_nil rfl ?_
  refine thenS_n ?_
  refine W_seq ?_
  refine W_region ?_
  refine WO_step 3 [0] [1, 2, 12, 13, 14] True ⟨[(1, S s2), (2, I i3), (12, .one (.e (.sl 0 0 x1.length))), (13, .one (.e (.sl 0 0 x1.length))), (14, S s2)], [.row .nod x1 false]⟩ (by kernel_rfl) trivial ?_
  refine bindO_e h (fun i26 hc27 h => ?_)
  refine WO_call [.ro 0] Try.f81 rfl rfl rfl (by kernel_rfl) Try.func81 rfl (by kernel_rfl) (impl_upperNode_ok n x1 s2 i26 hc27) (And.intro (And.intro rfl rfl) (trivial)) rfl ?_
  refine WO_step 2 [0] [1, 2, 12, 15, 16, 17] True ⟨[(1, S s2), (2, I i3), (12, .one (.e (.sl 0 0 x1.length))), (15, I i26), (16, S s2), (17, S s2)], [.row .nod x1 false]⟩ (by kernel_rfl) trivial ?_
  refine bindO_e h (fun i28 hc29 h => ?_)
  refine WO_call [] Try.f82 rfl rfl rfl (by kernel_rfl) Try.func82 rfl (by kernel_rfl) (strings_LastIndexByte_ok n s2 47 i28 hc29) (trivial) rfl ?_
  refine guardO_e h (fun hg30 h => ?_)
  refine WO_step 3 [0] [1, 12, 15, 20, 21] (True ∧ ((0 ≤ (w64 (i28 + 1)) ∧ (w64 (i28 + 1)) ≤ ((s2.length : Nat) : Int)) ∧ True)) ⟨[(1, S s2), (12, .one (.e (.sl 0 0 x1.length))), (15, I i26), (20, S (s2.drop ((w64 (i28 + 1)).toNat))), (21, I i3)], [.row .nod x1 false]⟩ (by kernel_rfl) ⟨trivial, hg30, trivial⟩ ?_
  refine bindO_e h (fun v45 hc34 h => ?_)
  obtain ⟨x31, i32, b33⟩ := v45
  refine WO_call [.ro 0] Try.f80 rfl rfl rfl (by kernel_rfl) Try.func80 rfl (by kernel_rfl) (impl_AddNode_ok n x1 i26 (s2.drop ((w64 (i28 + 1)).toNat)) i3 x31 i32 b33 hc34) (And.intro (And.intro rfl rfl) (trivial)) rfl ?_
  refine WO_step 7 [0, 1] [1, 8, 9, 10] True ⟨[(1, S s2), (8, .one (.e (.sl 1 0 x31.length))), (9, I i32), (10, B b33)], [.row .nod x1 false, .row .nod x31 true]⟩ (by kernel_rfl) trivial ?_
  refine WO_nil rfl ?_
  refine thenS_n ?_
  refine W_seq ?_
  refine W_seq ?_
  refine W_region ?_
  refine WO_step 3 [0, 1] [1, 8, 9, 28] True ⟨[(1, S s2), (8, .one (.e (.sl 1 0 x31.length))), (9, I i32), (28, B (!b33))], [.row .nod x1 false, .row .nod x31 true]⟩ (by kernel_rfl) trivial ?_
  refine bindO_e h (fun b38 hv39 h => ?_)
  refine WO_thru ⟨[(8, .one (.e (.sl 1 0 x31.length))), (34, B b38)], [.row .nod x1 false, .row .nod x31 true]⟩ ?_ ?_
  · refine iteO_e hv39 (fun hb40 hv39 => WO_known 28 true rfl hb40 ?_) (fun hb40 hv39 => WO_known 28 false rfl hb40 ?_)
    · refine WO_step 6 [0, 1] [8, 34] True ⟨[(8, .one (.e (.sl 1 0 x31.length))), (34, B true)], [.row .nod x1 false, .row .nod x31 true]⟩ (by kernel_rfl) trivial ?_
      cases hv39
      exact WO_nil rfl ⟨rfl, rfl⟩
    · refine WO_step 2 [0, 1] [1, 8, 28, 29, 30] True ⟨[(1, S s2), (8, .one (.e (.sl 1 0 x31.length))), (28, B false), (29, .one (.e (.sl 1 0 x31.length))), (30, I i32)], [.row .nod x1 false, .row .nod x31 true]⟩ (by kernel_rfl) trivial ?_
      refine bindO_e hv39 (fun s41 hc42 hv39 => ?_)
      refine WO_call [.ro 1] Try.f53 rfl rfl rfl (by kernel_rfl) Try.func53 rfl (by kernel_rfl) (impl_PathText_ok n x31 i32 s41 hc42) (And.intro (And.intro rfl rfl) (trivial)) rfl ?_
      refine WO_step 3 [0, 1] [8, 34] (True ∧ True) ⟨[(8, .one (.e (.sl 1 0 x31.length))), (34, B (!decide (s41 = s2)))], [.row .nod x1 false, .row .nod x31 true]⟩ (by kernel_rfl) ⟨trivial, trivial⟩ ?_
      cases hv39
      exact WO_nil rfl ⟨rfl, rfl⟩
  · refine thenS_n ?_
    refine iteO_e h (fun hb44 h => W_true rfl hb44 ?_) (fun hb44 h => W_false rfl hb44 ?_)
    · refine W_seq ?_
      refine W_region ?_
      refine WO_step 2 [0] [6, 7] True ⟨[(6, .one (.e (.nsl))), (7, B false)], [.row .nod x1 false]⟩ (by kernel_rfl) trivial ?_
      refine WO_nilrow 6 .nod rfl ?_
      refine WO_sub [0, 1] [6, 7] (st' := ⟨[(6, .one (.e (.sl 1 0 (([] : List Nod).length)))), (7, B false)], [.row .nod x1 false, .row .nod ([] : List Nod) true]⟩) (by kernel_rfl) ?_
      refine WO_nil rfl ?_
      refine thenS_n ?_
      refine W_ret ?_
      refine thenS_r ?_
      cases h
      exact ⟨[0, 1], True, by kernel_rfl, trivial⟩
    · refine W_sub [0, 1] [8] (st' := ⟨[(8, .one (.e (.sl 1 0 x31.length)))], [.row .nod x1 false, .row .nod x31 true]⟩) (by kernel_rfl) ?_
      refine W_skip ?_
      refine thenS_n ?_
      refine W_seq ?_
      refine W_region ?_
      refine WO_step 3 [0, 1] [6, 7] True ⟨[(6, .one (.e (.sl 1 0 x31.length))), (7, B true)], [.row .nod x1 false, .row .nod x31 true]⟩ (by kernel_rfl) trivial ?_
      refine WO_nil rfl ?_
      refine thenS_n ?_
      refine W_ret ?_
      cases h
      exact ⟨[0, 1], True, by kernel_rfl, trivial⟩

/- impl.applyEdit -/
def impl_applyEdit (n : Nat) (x1 : List Nod) (x2 : Edt) : Option ((List Nod) × Bool) :=
 bindO (impl_ResolvePath n x1 x2.path) fun i155 =>
 iteO (decide (x2.kind = 1))
 (iteO (!decide (x2.value = 0))
 (some (([] : List Nod), false))
 (bindO (impl_DropNode n x1 i155) fun (x271, b272) =>
 some (x271, b272)))
 (iteO (decide (x2.kind = 0))
 (iteO (decide (0 ≤ i155))
 (bindO (impl_SetValue n x1 i155 x2.value) fun (x297, b298) =>
 some (x297, b298))
 (bindO (impl_addPath n x1 x2.path x2.value) fun (x301, b302) =>
 some (x301, b302)))
 (some (([] : List Nod), false)))

theorem impl_applyEdit_ok (n : Nat) (x1 : List Nod) (x2 : Edt) (x153 : List Nod) (b154 : Bool) (h : impl_applyEdit n x1 x2 = some (x153, b154)) : FOk EE 36 [.one (.e (.sl 0 0 x1.length)), AGG [cI x2.kind, cS x2.path, cI x2.value]] [.row .nod x1 false] (.tup [.e (.sl 1 0 x153.length), .e (cB b154)]) [.row .nod x1 false, .row .nod x153 true] := by
  unfold impl_applyEdit at h
  refine FOk_of_W 42 1 Try.func36 rfl rfl (Nat.le_of_ble_eq_true rfl) rfl (fun w X θ => ?_)
  refine W_seq ?_
  refine W_region ?_
  refine WO_step 3 [0, 1] [0, 3] (True ∧ True) ⟨[(0, .one (.e (.sl 0 0 x1.length))), (3, .one (.e (.p 1 0)))], [.row .nod x1 false, .cells [cI x2.kind, cS x2.path, cI x2.value]]⟩ (by kernel_rfl) ⟨trivial, trivial⟩ ?_
  refine WO_nil rfl ?_
  refine thenS_n ?_
  refine W_seq ?_
  refine W_region ?_
  refine WO_step 3 [0, 1] [0, 3, 7, 9] (True ∧ True) ⟨[(0, .one (.e (.sl 0 0 x1.length))), (3, .one (.e (.p 1 0))), (7, .one (.e (.sl 0 0 x1.length))), (9, S x2.path)], [.row .nod x1 false, .cells [cI x2.kind, cS x2.path, cI x2.value]]⟩ (by kernel_rfl) ⟨trivial, trivial⟩ ?_
  refine bindO_e h (fun i155 hc156 h => ?_)
  refine WO_call [.ro 0] Try.f14 rfl rfl rfl (by kernel_rfl) Try.func14 rfl (by kernel_rfl) (impl_ResolvePath_ok n x1 x2.path i155 hc156) (And.intro (And.intro rfl rfl) (trivial)) rfl ?_
  refine WO_step 1 [0, 1] [0, 3, 6] True ⟨[(0, .one (.e (.sl 0 0 x1.length))), (3, .one (.e (.p 1 0))), (6, I i155)], [.row .nod x1 false, .cells [cI x2.kind, cS x2.path, cI x2.value]]⟩ (by kernel_rfl) trivial ?_
  refine WO_nil rfl ?_
  refine thenS_n ?_
  refine W_seq ?_
  refine W_seq ?_
  refine W_region ?_
  refine WO_step 2 [0, 1] [0, 3, 6, 12] (True ∧ True) ⟨[(0, .one (.e (.sl 0 0 x1.length))), (3, .one (.e (.p 1 0))), (6, I i155), (12, I x2.kind)], [.row .nod x1 false, .cells [cI x2.kind, cS x2.path, cI x2.value]]⟩ (by kernel_rfl) ⟨trivial, trivial⟩ ?_
  refine WO_nil rfl ?_
  refine thenS_n ?_
  refine W_block ?_
  refine W_seq ?_
  refine W_region ?_
  refine WO_step 2 [0, 1] [0, 3, 6, 12, 13] (True ∧ True) ⟨[(0, .one (.e (.sl 0 0 x1.length))), (3, .one (.e (.p 1 0))), (6, I i155), (12, I x2.kind), (13, B (decide (x2.kind = 1)))], [.row .nod x1 false, .cells [cI x2.kind, cS x2.path, cI x2.value]]⟩ (by kernel_rfl) ⟨trivial, trivial⟩ ?_
  refine WO_nil rfl ?_
  refine thenS_n ?_
  refine iteO_e h (fun hb268 h => W_true rfl hb268 ?_) (fun hb268 h => W_false rfl hb268 ?_)
  · refine W_seq ?_
    refine W_seq ?_
    refine W_region ?_
    refine WO_step 3 [0] [0, 6, 17] (True ∧ (True ∧ True)) ⟨[(0, .one (.e (.sl 0 0 x1.length))), (6, I i155), (17, B (!decide (x2.value = 0)))], [.row .nod x1 false]⟩ (by kernel_rfl) ⟨trivial, trivial, trivial⟩ ?_
    refine WO_nil rfl ?_
    refine thenS_n ?_
    refine iteO_e h (fun hb270 h => W_true rfl hb270 ?_) (fun hb270 h => W_false rfl hb270 ?_)
    · refine W_seq ?_
      refine W_region ?_
      refine WO_step 2 [0] [4, 5] True ⟨[(4, .one (.e (.nsl))), (5, B false)], [.row .nod x1 false]⟩ (by kernel_rfl) trivial ?_
      refine WO_nilrow 4 .nod rfl ?_
      refine WO_sub [0, 1] [4, 5] (st' := ⟨[(4, .one (.e (.sl 1 0 (([] : List Nod).length)))), (5, B false)], [.row .nod x1 false, .row .nod ([] : List Nod) true]⟩) (by kernel_rfl) ?_
      refine WO_nil rfl ?_
      refine thenS_n ?_
      refine W_ret ?_
      refine thenS_r ?_
      refine blockS_r ?_
      refine thenS_r ?_
      cases h
      exact ⟨[0, 1], True, by kernel_rfl, trivial⟩
    · refine W_sub [0] [0, 6] (st' := ⟨[(0, .one (.e (.sl 0 0 x1.length))), (6, I i155)], [.row .nod x1 false]⟩) (by kernel_rfl) ?_
      refine W_skip ?_
      refine thenS_n ?_
      refine W_seq ?_
      refine W_region ?_
      refine WO_step 2 [0] [18, 19] True ⟨[(18, .one (.e (.sl 0 0 x1.length))), (19, I i155)], [.row .nod x1 false]⟩ (by kernel_rfl) trivial ?_
      refine bindO_e h (fun v274 hc273 h => ?_)
      obtain ⟨x271, b272⟩ := v274
      refine WO_call [.ro 0] Try.f61 rfl rfl rfl (by kernel_rfl) Try.func61 rfl (by kernel_rfl) (impl_DropNode_ok n x1 i155 x271 b272 hc273) (And.intro (And.intro rfl rfl) (trivial)) rfl ?_
      refine WO_step 4 [0, 1] [4, 5] True ⟨[(4, .one (.e (.sl 1 0 x271.length))), (5, B b272)], [.row .nod x1 false, .row .nod x271 true]⟩ (by kernel_rfl) trivial ?_
      refine WO_nil rfl ?_
      refine thenS_n ?_
      refine W_ret ?_
      refine blockS_r ?_
      refine thenS_r ?_
      cases h
      exact ⟨[0, 1], True, by kernel_rfl, trivial⟩
  · refine W_seq ?_
    refine W_region ?_
    refine WO_step 2 [0, 1] [0, 3, 6, 23] (True ∧ True) ⟨[(0, .one (.e (.sl 0 0 x1.length))), (3, .one (.e (.p 1 0))), (6, I i155), (23, B (decide (x2.kind = 0)))], [.row .nod x1 false, .cells [cI x2.kind, cS x2.path, cI x2.value]]⟩ (by kernel_rfl) ⟨trivial, trivial⟩ ?_
    refine WO_nil rfl ?_
    refine thenS_n ?_
    refine iteO_e h (fun hb290 h => W_true rfl hb290 ?_) (fun hb290 h => W_false rfl hb290 ?_)
    · refine W_seq ?_
      refine W_seq ?_
      refine W_region ?_
      refine WO_step 2 [0, 1] [0, 3, 6, 26] (True ∧ True) ⟨[(0, .one (.e (.sl 0 0 x1.length))), (3, .one (.e (.p 1 0))), (6, I i155), (26, B (decide (0 ≤ i155)))], [.row .nod x1 false, .cells [cI x2.kind, cS x2.path, cI x2.value]]⟩ (by kernel_rfl) ⟨trivial, trivial⟩ ?_
      refine WO_nil rfl ?_
      refine thenS_n ?_
      refine iteO_e h (fun hb296 h => W_true rfl hb296 ?_) (fun hb296 h => W_false rfl hb296 ?_)
      · refine W_seq ?_
        refine W_region ?_
        refine WO_step 4 [0] [27, 28, 30] (True ∧ True) ⟨[(27, .one (.e (.sl 0 0 x1.length))), (28, I i155), (30, I x2.value)], [.row .nod x1 false]⟩ (by kernel_rfl) ⟨trivial, trivial⟩ ?_
        refine bindO_e h (fun v300 hc299 h => ?_)
        obtain ⟨x297, b298⟩ := v300
        refine WO_call [.ro 0] Try.f62 rfl rfl rfl (by kernel_rfl) Try.func62 rfl (by kernel_rfl) (impl_SetValue_ok n x1 i155 x2.value x297 b298 hc299) (And.intro (And.intro rfl rfl) (trivial)) rfl ?_
        refine WO_step 4 [0, 1] [4, 5] True ⟨[(4, .one (.e (.sl 1 0 x297.length))), (5, B b298)], [.row .nod x1 false, .row .nod x297 true]⟩ (by kernel_rfl) trivial ?_
        refine WO_nil rfl ?_
        refine thenS_n ?_
        refine W_ret ?_
        refine thenS_r ?_
        refine blockS_r ?_
        refine thenS_r ?_
        cases h
        exact ⟨[0, 1], True, by kernel_rfl, trivial⟩
      · refine W_sub [0, 1] [0, 3] (st' := ⟨[(0, .one (.e (.sl 0 0 x1.length))), (3, .one (.e (.p 1 0)))], [.row .nod x1 false, .cells [cI x2.kind, cS x2.path, cI x2.value]]⟩) (by kernel_rfl) ?_
        refine W_skip ?_
        refine thenS_n ?_
        refine W_seq ?_
        refine W_region ?_
        refine WO_step 5 [0] [34, 36, 38] (True ∧ (True ∧ True)) ⟨[(34, .one (.e (.sl 0 0 x1.length))), (36, S x2.path), (38, I x2.value)], [.row .nod x1 false]⟩ (by kernel_rfl) ⟨trivial, trivial, trivial⟩ ?_
        refine bindO_e h (fun v304 hc303 h => ?_)
        obtain ⟨x301, b302⟩ := v304
        refine WO_call [.ro 0] Try.f63 rfl rfl rfl (by kernel_rfl) Try.func63 rfl (by kernel_rfl) (impl_addPath_ok n x1 x2.path x2.value x301 b302 hc303) (And.intro (And.intro rfl rfl) (trivial)) rfl ?_
        refine WO_step 4 [0, 1] [4, 5] True ⟨[(4, .one (.e (.sl 1 0 x301.length))), (5, B b302)], [.row .nod x1 false, .row .nod x301 true]⟩ (by kernel_rfl) trivial ?_
        refine WO_nil rfl ?_
        refine thenS_n ?_
        refine W_ret ?_
        refine blockS_r ?_
        refine thenS_r ?_
        cases h
        exact ⟨[0, 1], True, by kernel_rfl, trivial⟩
    · refine W_sub [0] [] (st' := ⟨[], [.row .nod x1 false]⟩) (by kernel_rfl) ?_
      refine W_skip ?_
      refine blockS_n ?_
      refine thenS_n ?_
      refine W_seq ?_
      refine W_region ?_
      refine WO_step 2 [0] [4, 5] True ⟨[(4, .one (.e (.nsl))), (5, B false)], [.row .nod x1 false]⟩ (by kernel_rfl) trivial ?_
      refine WO_nilrow 4 .nod rfl ?_
      refine WO_sub [0, 1] [4, 5] (st' := ⟨[(4, .one (.e (.sl 1 0 (([] : List Nod).length)))), (5, B false)], [.row .nod x1 false, .row .nod ([] : List Nod) true]⟩) (by kernel_rfl) ?_
      refine WO_nil rfl ?_
      refine thenS_n ?_
      refine W_ret ?_
      cases h
      exact ⟨[0, 1], True, by kernel_rfl, trivial⟩

/- impl.ApplyEdits -/
def impl_ApplyEdits_L1 (x2 : List Edt) (x1 : List Nod) : Nat → (List Nod) → Int → Option ((Unit) ⊕ ((List Nod)))
| 0, _, _ => none
| n + 1, x105, i106 =>
 iteO (decide (i106 < ((x2.length : Nat) : Int)))
 (guardO (0 ≤ i106 ∧ i106 < ((x2.length : Nat) : Int)) <|
 bindO (impl_applyEdit n x105 (x2.getD i106.toNat dedt)) fun (x137, b138) =>
 iteO (!b138)
 (some (.inl ()))
 (impl_ApplyEdits_L1 x2 x1 n x137 (w64 (i106 + 1))))
 (some (.inr x105))

theorem impl_ApplyEdits_L1_ok (w : World) (X : Nat → Prop) (θ : List Loc) (x2 : List Edt) (x1 : List Nod) (v : (Unit) ⊕ ((List Nod))) : ∀ (n : Nat) (x105 : List Nod) (i106 : Int), impl_ApplyEdits_L1 x2 x1 n x105 i106 = some v → WL EE ⟨w, X, θ, 38, 2⟩ (subC [1, 1, 1, 0, 1, 4, 4] (bodyC Try.f10)) (fun (e : Exit) (s : St) => (match v with | (.inl _) => e = .ret ∧ s = ⟨[(4, .one (.e (.sl 2 0 (([] : List Nod).length)))), (5, B false)], [.row .nod x1 false, .row .edt x2 false, .row .nod ([] : List Nod) true]⟩ | (.inr x125) => e = .exit 0 ∧ s = ⟨[(6, .one (.e (.sl 2 0 x125.length)))], [.row .nod x1 false, .row .edt x2 false, .row .nod x125 true]⟩ : Prop)) ⟨[(6, .one (.e (.sl 2 0 x105.length))), (21, .one (.e (.sl 1 0 x2.length))), (22, I ((x2.length : Nat) : Int)), (23, I i106)], [.row .nod x1 false, .row .edt x2 false, .row .nod x105 true]⟩ := by
  intro n
  induction n with
  | zero => intro _ _ h; exact none_e h
  | succ n ih =>
    intro x105 i106 h
    rw [impl_ApplyEdits_L1] at h
    refine WL_round ?_
    refine W_seq ?_
    refine W_region ?_
    refine WO_step 1 [0, 1, 2] [6, 21, 22, 23, 24] (True ∧ True) ⟨[(6, .one (.e (.sl 2 0 x105.length))), (21, .one (.e (.sl 1 0 x2.length))), (22, I ((x2.length : Nat) : Int)), (23, I i106), (24, B (decide (i106 < ((x2.length : Nat) : Int))))], [.row .nod x1 false, .row .edt x2 false, .row .nod x105 true]⟩ (by kernel_rfl) ⟨trivial, trivial⟩ ?_
    refine WO_nil rfl ?_
    refine thenS_n ?_
    refine W_seq ?_
    refine iteO_e h (fun hb128 h => W_true rfl hb128 ?_) (fun hb128 h => W_false rfl hb128 ?_)
    · refine W_sub [0, 1, 2] [6, 21, 22, 23] (st' := ⟨[(6, .one (.e (.sl 2 0 x105.length))), (21, .one (.e (.sl 1 0 x2.length))), (22, I ((x2.length : Nat) : Int)), (23, I i106)], [.row .nod x1 false, .row .edt x2 false, .row .nod x105 true]⟩) (by kernel_rfl) ?_
      refine W_skip ?_
      refine thenS_n ?_
      refine W_seq ?_
      refine W_block ?_
      refine W_seq ?_
      refine W_region ?_
      refine guardO_e h (fun hg136 h => ?_)
      refine WO_step 4 [0, 1, 2, 3] [6, 8, 21, 22, 23] ((0 ≤ i106 ∧ i106 < ((x2.length : Nat) : Int)) ∧ (True ∧ (True ∧ (True ∧ True)))) ⟨[(6, .one (.e (.sl 2 0 x105.length))), (8, .one (.e (.p 3 0))), (21, .one (.e (.sl 1 0 x2.length))), (22, I ((x2.length : Nat) : Int)), (23, I i106)], [.row .nod x1 false, .row .edt x2 false, .row .nod x105 true, .cells [cI ((x2.getD i106.toNat dedt).kind), cS ((x2.getD i106.toNat dedt).path), cI ((x2.getD i106.toNat dedt).value)]]⟩ (by kernel_rfl) ⟨hg136, trivial, trivial, trivial, trivial⟩ ?_
      refine WO_nil rfl ?_
      refine thenS_n ?_
      refine W_seq ?_
      refine W_region ?_
      refine WO_step 2 [0, 1, 2] [21, 22, 23, 28, 29] (True ∧ True) ⟨[(21, .one (.e (.sl 1 0 x2.length))), (22, I ((x2.length : Nat) : Int)), (23, I i106), (28, .one (.e (.sl 2 0 x105.length))), (29, AGG [cI ((x2.getD i106.toNat dedt).kind), cS ((x2.getD i106.toNat dedt).path), cI ((x2.getD i106.toNat dedt).value)])], [.row .nod x1 false, .row .edt x2 false, .row .nod x105 true]⟩ (by kernel_rfl) ⟨trivial, trivial⟩ ?_
      refine bindO_e h (fun v142 hc139 h => ?_)
      obtain ⟨x137, b138⟩ := v142
      refine WO_call [.ro 2] Try.f36 rfl rfl rfl (by kernel_rfl) Try.func36 rfl (by kernel_rfl) (impl_applyEdit_ok n x105 (x2.getD i106.toNat dedt) x137 b138 hc139) (And.intro (And.intro rfl rfl) (trivial)) rfl ?_
      refine WO_step 5 [0, 1, 3] [9, 10, 21, 22, 23] True ⟨[(9, .one (.e (.sl 2 0 x137.length))), (10, B b138), (21, .one (.e (.sl 1 0 x2.length))), (22, I ((x2.length : Nat) : Int)), (23, I i106)], [.row .nod x1 false, .row .edt x2 false, .row .nod x137 true]⟩ (by kernel_rfl) trivial ?_
      refine WO_nil rfl ?_
      refine thenS_n ?_
      refine W_seq ?_
      refine W_seq ?_
      refine W_region ?_
      refine WO_step 2 [0, 1, 2] [9, 21, 22, 23, 34] True ⟨[(9, .one (.e (.sl 2 0 x137.length))), (21, .one (.e (.sl 1 0 x2.length))), (22, I ((x2.length : Nat) : Int)), (23, I i106), (34, B (!b138))], [.row .nod x1 false, .row .edt x2 false, .row .nod x137 true]⟩ (by kernel_rfl) trivial ?_
      refine WO_nil rfl ?_
      refine thenS_n ?_
      refine iteO_e h (fun hb141 h => W_true rfl hb141 ?_) (fun hb141 h => W_false rfl hb141 ?_)
      · refine W_seq ?_
        refine W_region ?_
        refine WO_step 2 [0, 1] [4, 5] True ⟨[(4, .one (.e (.nsl))), (5, B false)], [.row .nod x1 false, .row .edt x2 false]⟩ (by kernel_rfl) trivial ?_
        refine WO_nilrow 4 .nod rfl ?_
        refine WO_sub [0, 1, 2] [4, 5] (st' := ⟨[(4, .one (.e (.sl 2 0 (([] : List Nod).length)))), (5, B false)], [.row .nod x1 false, .row .edt x2 false, .row .nod ([] : List Nod) true]⟩) (by kernel_rfl) ?_
        refine WO_nil rfl ?_
        refine thenS_n ?_
        refine W_ret ?_
        refine thenS_r ?_
        refine blockS_r ?_
        refine thenS_r ?_
        refine thenS_r ?_
        cases h
        exact And.intro rfl rfl
      · refine W_sub [0, 1, 2] [9, 21, 22, 23] (st' := ⟨[(9, .one (.e (.sl 2 0 x137.length))), (21, .one (.e (.sl 1 0 x2.length))), (22, I ((x2.length : Nat) : Int)), (23, I i106)], [.row .nod x1 false, .row .edt x2 false, .row .nod x137 true]⟩) (by kernel_rfl) ?_
        refine W_skip ?_
        refine thenS_n ?_
        refine W_region ?_
        refine WO_step 2 [0, 1, 2] [6, 21, 22, 23] True ⟨[(6, .one (.e (.sl 2 0 x137.length))), (21, .one (.e (.sl 1 0 x2.length))), (22, I ((x2.length : Nat) : Int)), (23, I i106)], [.row .nod x1 false, .row .edt x2 false, .row .nod x137 true]⟩ (by kernel_rfl) trivial ?_
        refine WO_nil rfl ?_
        refine blockS_n ?_
        refine thenS_n ?_
        refine W_region ?_
        refine WO_step 2 [0, 1, 2] [6, 21, 22, 23] (True ∧ True) ⟨[(6, .one (.e (.sl 2 0 x137.length))), (21, .one (.e (.sl 1 0 x2.length))), (22, I ((x2.length : Nat) : Int)), (23, I (w64 (i106 + 1)))], [.row .nod x1 false, .row .edt x2 false, .row .nod x137 true]⟩ (by kernel_rfl) ⟨trivial, trivial⟩ ?_
        refine WO_nil rfl ?_
        refine thenS_n ?_
        exact ih _ _ h
    · refine W_sub [0, 1, 2] [6] (st' := ⟨[(6, .one (.e (.sl 2 0 x105.length)))], [.row .nod x1 false, .row .edt x2 false, .row .nod x105 true]⟩) (by kernel_rfl) ?_
      refine W_exit ?_
      refine thenS_e ?_
      refine thenS_e ?_
      cases h
      exact And.intro rfl rfl

def impl_ApplyEdits (n : Nat) (x1 : List Nod) (x2 : List Edt) : Option ((List Nod) × Bool) :=
 bindO (impl_ValidTree n x1) fun b74 =>
 iteO ((!b74) || (decide (24 < ((x2.length : Nat) : Int))))
 (some (([] : List Nod), false))
 (bindO (slices_Clone_Node x1) fun x81 =>
 bindO (impl_ApplyEdits_L1 x2 x1 n x81 0) fun v143 =>
 match v143 with
 | (.inl _) => (some (([] : List Nod), false))
 | (.inr x125) => (some (x125, true))
)

theorem impl_ApplyEdits_ok (n : Nat) (x1 : List Nod) (x2 : List Edt) (x72 : List Nod) (b73 : Bool) (h : impl_ApplyEdits n x1 x2 = some (x72, b73)) : FOk EE 10 [.one (.e (.sl 0 0 x1.length)), .one (.e (.sl 1 0 x2.length))] [.row .nod x1 false, .row .edt x2 false] (.tup [.e (.sl 2 0 x72.length), .e (cB b73)]) [.row .nod x1 false, .row .edt x2 false, .row .nod x72 true] := by
  unfold impl_ApplyEdits at h
  refine FOk_of_W 38 2 Try.func10 rfl rfl (Nat.le_of_ble_eq_true rfl) rfl (fun w X θ => ?_)
  refine W_seq ?_
  refine W_region ?_
  refine WO_step 2 [0, 1] [0, 1] True ⟨[(0, .one (.e (.sl 0 0 x1.length))), (1, .one (.e (.sl 1 0 x2.length)))], [.row .nod x1 false, .row .edt x2 false]⟩ (by kernel_rfl) trivial ?_
  refine WO_nil rfl ?_
  refine thenS_n ?_
  refine W_seq ?_
  refine W_seq ?_
  refine W_region ?_
  refine WO_step 1 [0, 1] [0, 1, 11] True ⟨[(0, .one (.e (.sl 0 0 x1.length))), (1, .one (.e (.sl 1 0 x2.length))), (11, .one (.e (.sl 0 0 x1.length)))], [.row .nod x1 false, .row .edt x2 false]⟩ (by kernel_rfl) trivial ?_
  refine bindO_e h (fun b74 hc75 h => ?_)
  refine WO_call [.ro 0] Try.f13 rfl rfl rfl (by kernel_rfl) Try.func13 rfl (by kernel_rfl) (impl_ValidTree_ok n x1 b74 hc75) (And.intro (And.intro rfl rfl) (trivial)) rfl ?_
  refine WO_step 2 [0, 1] [0, 1, 14] True ⟨[(0, .one (.e (.sl 0 0 x1.length))), (1, .one (.e (.sl 1 0 x2.length))), (14, B (!b74))], [.row .nod x1 false, .row .edt x2 false]⟩ (by kernel_rfl) trivial ?_
  refine WO_thru ⟨[(0, .one (.e (.sl 0 0 x1.length))), (1, .one (.e (.sl 1 0 x2.length))), (18, B ((!b74) || (decide (24 < ((x2.length : Nat) : Int)))))], [.row .nod x1 false, .row .edt x2 false]⟩ ?_ ?_
  · refine WO_if 14 rfl (fun hb78 => ?_) (fun hb78 => ?_)
    · refine WO_step 4 [0, 1] [0, 1, 18] True ⟨[(0, .one (.e (.sl 0 0 x1.length))), (1, .one (.e (.sl 1 0 x2.length))), (18, B true)], [.row .nod x1 false, .row .edt x2 false]⟩ (by kernel_rfl) trivial ?_
      exact WO_nil rfl ⟨rfl, by first | rfl | (rw [hb78]; first | done | rfl)⟩
    · refine WO_step 4 [0, 1] [0, 1, 18] (True ∧ (True ∧ True)) ⟨[(0, .one (.e (.sl 0 0 x1.length))), (1, .one (.e (.sl 1 0 x2.length))), (18, B (decide (24 < ((x2.length : Nat) : Int))))], [.row .nod x1 false, .row .edt x2 false]⟩ (by kernel_rfl) ⟨trivial, trivial, trivial⟩ ?_
      exact WO_nil rfl ⟨rfl, by first | rfl | (rw [hb78]; first | done | rfl)⟩
  · refine thenS_n ?_
    refine iteO_e h (fun hb80 h => W_true rfl hb80 ?_) (fun hb80 h => W_false rfl hb80 ?_)
    · refine W_seq ?_
      refine W_region ?_
      refine WO_step 2 [0, 1] [4, 5] True ⟨[(4, .one (.e (.nsl))), (5, B false)], [.row .nod x1 false, .row .edt x2 false]⟩ (by kernel_rfl) trivial ?_
      refine WO_nilrow 4 .nod rfl ?_
      refine WO_sub [0, 1, 2] [4, 5] (st' := ⟨[(4, .one (.e (.sl 2 0 (([] : List Nod).length)))), (5, B false)], [.row .nod x1 false, .row .edt x2 false, .row .nod ([] : List Nod) true]⟩) (by kernel_rfl) ?_
      refine WO_nil rfl ?_
      refine thenS_n ?_
      refine W_ret ?_
      refine thenS_r ?_
      cases h
      exact ⟨[0, 1, 2], True, by kernel_rfl, trivial⟩
    · refine W_sub [0, 1] [0, 1] (st' := ⟨[(0, .one (.e (.sl 0 0 x1.length))), (1, .one (.e (.sl 1 0 x2.length)))], [.row .nod x1 false, .row .edt x2 false]⟩) (by kernel_rfl) ?_
      refine W_skip ?_
      refine thenS_n ?_
      refine W_seq ?_
      refine W_region ?_
      refine WO_step 1 [0, 1] [1, 19] True ⟨[(1, .one (.e (.sl 1 0 x2.length))), (19, .one (.e (.sl 0 0 x1.length)))], [.row .nod x1 false, .row .edt x2 false]⟩ (by kernel_rfl) trivial ?_
      refine bindO_e h (fun x81 hc82 h => ?_)
      refine WO_call [.ro 0] Try.f35 rfl rfl rfl (by kernel_rfl) Try.func35 rfl (by kernel_rfl) (slices_Clone_Node_ok x1 x81 hc82) (And.intro (And.intro rfl rfl) (trivial)) rfl ?_
      refine WO_step 1 [0, 1, 2] [1, 6] True ⟨[(1, .one (.e (.sl 1 0 x2.length))), (6, .one (.e (.sl 2 0 x81.length)))], [.row .nod x1 false, .row .edt x2 false, .row .nod x81 true]⟩ (by kernel_rfl) trivial ?_
      refine WO_nil rfl ?_
      refine thenS_n ?_
      refine W_seq ?_
      refine W_seq ?_
      refine W_region ?_
      refine WO_step 3 [0, 1, 2] [6, 21, 22, 23] (True ∧ True) ⟨[(6, .one (.e (.sl 2 0 x81.length))), (21, .one (.e (.sl 1 0 x2.length))), (22, I ((x2.length : Nat) : Int)), (23, I 0)], [.row .nod x1 false, .row .edt x2 false, .row .nod x81 true]⟩ (by kernel_rfl) ⟨trivial, trivial⟩ ?_
      refine WO_nil rfl ?_
      refine thenS_n ?_
      refine W_block ?_
      refine W_loop ?_
      refine bindO_e h (fun v143 hv143 h => ?_)
      refine WL_cut (impl_ApplyEdits_L1_ok w X θ x2 x1 v143 n x81 0 hv143) ?_
      rcases v143 with _ | x125
      · rintro _ _ ⟨rfl, rfl⟩
        refine blockS_r ?_
        refine thenS_r ?_
        cases h
        exact ⟨[0, 1, 2], True, by kernel_rfl, trivial⟩
      · rintro _ _ ⟨rfl, rfl⟩
        refine blockS_y ?_
        refine thenS_n ?_
        refine W_seq ?_
        refine W_region ?_
        refine WO_step 3 [0, 1, 2] [4, 5] True ⟨[(4, .one (.e (.sl 2 0 x125.length))), (5, B true)], [.row .nod x1 false, .row .edt x2 false, .row .nod x125 true]⟩ (by kernel_rfl) trivial ?_
        refine WO_nil rfl ?_
        refine thenS_n ?_
        refine W_ret ?_
        cases h
        exact ⟨[0, 1, 2], True, by kernel_rfl, trivial⟩

/- laws.eqNode -/
def laws_eqNode (x1 : Nod) (x2 : Nod) : Option (Bool) :=
 iteO (!decide (x1.parent = x2.parent))
 (some false)
 (iteO (!decide (x1.name = x2.name))
 (some false)
 (iteO (!decide (x1.value = x2.value))
 (some false)
 (some true)))

theorem laws_eqNode_ok (x1 : Nod) (x2 : Nod) (b9 : Bool) (h : laws_eqNode x1 x2 = some b9) : FOk EE 48 [AGG [cI x1.parent, cS x1.name, cI x1.value], AGG [cI x2.parent, cS x2.name, cI x2.value]] [] (B b9) [] := by
  unfold laws_eqNode at h
  refine FOk_of_W 20 0 Try.func48 rfl rfl (Nat.le_of_ble_eq_true rfl) rfl (fun w X θ => ?_)
  refine W_seq ?_
  refine W_region ?_
  refine WO_step 3 [0, 1] [2, 3] (True ∧ (True ∧ True)) ⟨[(2, .one (.e (.p 0 0))), (3, .one (.e (.p 1 0)))], [.cells [cI x1.parent, cS x1.name, cI x1.value], .cells [cI x2.parent, cS x2.name, cI x2.value]]⟩ (by kernel_rfl) ⟨trivial, trivial, trivial⟩ ?_
  refine WO_nil rfl ?_
  refine thenS_n ?_
  refine W_seq ?_
  refine W_seq ?_
  refine W_region ?_
  refine WO_step 5 [0, 1] [2, 3, 9] (True ∧ (True ∧ (True ∧ True))) ⟨[(2, .one (.e (.p 0 0))), (3, .one (.e (.p 1 0))), (9, B (!decide (x1.parent = x2.parent)))], [.cells [cI x1.parent, cS x1.name, cI x1.value], .cells [cI x2.parent, cS x2.name, cI x2.value]]⟩ (by kernel_rfl) ⟨trivial, trivial, trivial, trivial⟩ ?_
  refine WO_nil rfl ?_
  refine thenS_n ?_
  refine iteO_e h (fun hb11 h => W_true rfl hb11 ?_) (fun hb11 h => W_false rfl hb11 ?_)
  · refine W_seq ?_
    refine W_region ?_
    refine WO_step 1 [] [4] True ⟨[(4, B false)], []⟩ (by kernel_rfl) trivial ?_
    refine WO_nil rfl ?_
    refine thenS_n ?_
    refine W_ret ?_
    refine thenS_r ?_
    cases h
    exact ⟨[], True, by kernel_rfl, trivial⟩
  · refine W_sub [0, 1] [2, 3] (st' := ⟨[(2, .one (.e (.p 0 0))), (3, .one (.e (.p 1 0)))], [.cells [cI x1.parent, cS x1.name, cI x1.value], .cells [cI x2.parent, cS x2.name, cI x2.value]]⟩) (by kernel_rfl) ?_
    refine W_skip ?_
    refine thenS_n ?_
    refine W_seq ?_
    refine W_seq ?_
    refine W_region ?_
    refine WO_step 5 [0, 1] [2, 3, 14] (True ∧ (True ∧ (True ∧ True))) ⟨[(2, .one (.e (.p 0 0))), (3, .one (.e (.p 1 0))), (14, B (!decide (x1.name = x2.name)))], [.cells [cI x1.parent, cS x1.name, cI x1.value], .cells [cI x2.parent, cS x2.name, cI x2.value]]⟩ (by kernel_rfl) ⟨trivial, trivial, trivial, trivial⟩ ?_
    refine WO_nil rfl ?_
    refine thenS_n ?_
    refine iteO_e h (fun hb13 h => W_true rfl hb13 ?_) (fun hb13 h => W_false rfl hb13 ?_)
    · refine W_seq ?_
      refine W_region ?_
      refine WO_step 1 [] [4] True ⟨[(4, B false)], []⟩ (by kernel_rfl) trivial ?_
      refine WO_nil rfl ?_
      refine thenS_n ?_
      refine W_ret ?_
      refine thenS_r ?_
      cases h
      exact ⟨[], True, by kernel_rfl, trivial⟩
    · refine W_sub [0, 1] [2, 3] (st' := ⟨[(2, .one (.e (.p 0 0))), (3, .one (.e (.p 1 0)))], [.cells [cI x1.parent, cS x1.name, cI x1.value], .cells [cI x2.parent, cS x2.name, cI x2.value]]⟩) (by kernel_rfl) ?_
      refine W_skip ?_
      refine thenS_n ?_
      refine W_seq ?_
      refine W_seq ?_
      refine W_region ?_
      refine WO_step 5 [] [19] (True ∧ (True ∧ (True ∧ True))) ⟨[(19, B (!decide (x1.value = x2.value)))], []⟩ (by kernel_rfl) ⟨trivial, trivial, trivial, trivial⟩ ?_
      refine WO_nil rfl ?_
      refine thenS_n ?_
      refine iteO_e h (fun hb15 h => W_true rfl hb15 ?_) (fun hb15 h => W_false rfl hb15 ?_)
      · refine W_seq ?_
        refine W_region ?_
        refine WO_step 1 [] [4] True ⟨[(4, B false)], []⟩ (by kernel_rfl) trivial ?_
        refine WO_nil rfl ?_
        refine thenS_n ?_
        refine W_ret ?_
        refine thenS_r ?_
        cases h
        exact ⟨[], True, by kernel_rfl, trivial⟩
      · refine W_sub [] [] (st' := ⟨[], []⟩) (by kernel_rfl) ?_
        refine W_skip ?_
        refine thenS_n ?_
        refine W_seq ?_
        refine W_region ?_
        refine WO_step 1 [] [4] True ⟨[(4, B true)], []⟩ (by kernel_rfl) trivial ?_
        refine WO_nil rfl ?_
        refine thenS_n ?_
        refine W_ret ?_
        cases h
        exact ⟨[], True, by kernel_rfl, trivial⟩

/- laws.eqNodeS -/
def laws_eqNodeS_L1 (x1 : List Nod) (x2 : List Nod) : Nat → Int → Option ((Unit) ⊕ (Unit))
| 0, _ => none
| n + 1, i73 =>
 iteO (decide (i73 < ((x1.length : Nat) : Int)))
 (guardO (0 ≤ i73 ∧ i73 < ((x1.length : Nat) : Int)) <|
 guardO (0 ≤ i73 ∧ i73 < ((x2.length : Nat) : Int)) <|
 bindO (laws_eqNode (x1.getD i73.toNat dnod) (x2.getD i73.toNat dnod)) fun b100 =>
 iteO (!b100)
 (some (.inl ()))
 (laws_eqNodeS_L1 x1 x2 n (w64 (i73 + 1))))
 (some (.inr ()))

theorem laws_eqNodeS_L1_ok (w : World) (X : Nat → Prop) (θ : List Loc) (x1 : List Nod) (x2 : List Nod) (v : (Unit) ⊕ (Unit)) : ∀ (n : Nat) (i73 : Int), laws_eqNodeS_L1 x1 x2 n i73 = some v → WL EE ⟨w, X, θ, 27, 2⟩ (subC [1, 1, 0, 1, 4, 4] (bodyC Try.f19)) (fun (e : Exit) (s : St) => (match v with | (.inl _) => e = .ret ∧ s = ⟨[(4, B false)], [.row .nod x1 false, .row .nod x2 false]⟩ | (.inr _) => e = .exit 0 ∧ s = ⟨[], [.row .nod x1 false, .row .nod x2 false]⟩ : Prop)) ⟨[(0, .one (.e (.sl 0 0 x1.length))), (1, .one (.e (.sl 1 0 x2.length))), (5, I i73)], [.row .nod x1 false, .row .nod x2 false]⟩ := by
  intro n
  induction n with
  | zero => intro _ h; exact none_e h
  | succ n ih =>
    intro i73 h
    rw [laws_eqNodeS_L1] at h
    refine WL_round ?_
    refine W_seq ?_
    refine W_seq ?_
    refine W_region ?_
    refine WO_step 4 [0, 1] [0, 1, 5, 14] (True ∧ (True ∧ True)) ⟨[(0, .one (.e (.sl 0 0 x1.length))), (1, .one (.e (.sl 1 0 x2.length))), (5, I i73), (14, B (decide (i73 < ((x1.length : Nat) : Int))))], [.row .nod x1 false, .row .nod x2 false]⟩ (by kernel_rfl) ⟨trivial, trivial, trivial⟩ ?_
    refine WO_nil rfl ?_
    refine thenS_n ?_
    refine iteO_e h (fun hb91 h => W_true rfl hb91 ?_) (fun hb91 h => W_false rfl hb91 ?_)
    · refine W_sub [0, 1] [0, 1, 5] (st' := ⟨[(0, .one (.e (.sl 0 0 x1.length))), (1, .one (.e (.sl 1 0 x2.length))), (5, I i73)], [.row .nod x1 false, .row .nod x2 false]⟩) (by kernel_rfl) ?_
      refine W_skip ?_
      refine thenS_n ?_
      refine W_seq ?_
      refine W_block ?_
      refine W_seq ?_
      refine guardO_e h (fun hg98 h => ?_)
      refine guardO_e h (fun hg99 h => ?_)
      refine bindO_e h (fun b100 hc101 h => ?_)
      refine W_cut (Q' := fun (e : Exit) (s : St) => e = .normal ∧ s = ⟨[(0, .one (.e (.sl 0 0 x1.length))), (1, .one (.e (.sl 1 0 x2.length))), (5, I i73), (26, B (!b100))], [.row .nod x1 false, .row .nod x2 false]⟩) ?_ ?_
      · refine W_draw [] false (by kernel_rfl) (by kernel_rfl) ?_
        refine WD_takeK [0, 1, 2, 3, 4, 5, 6, 7] [0, 1, 5, 20, 24] [0, 1, 5, 20, 24] (φ := ((0 ≤ i73 ∧ i73 < ((x1.length : Nat) : Int)) ∧ (0 ≤ i73 ∧ i73 < ((x1.length : Nat) : Int)) ∧ (True ∧ True ∧ ((0 ≤ i73 ∧ i73 < ((x2.length : Nat) : Int)) ∧ (0 ≤ i73 ∧ i73 < ((x2.length : Nat) : Int)) ∧ (True ∧ True ∧ True))))) (ls' := #[true, true, true, true, true, true, true, true, false, false]) (Ts' := [(0, .one (.e (.sl 0 0 x1.length))), (1, .one (.e (.sl 1 0 x2.length))), (5, I i73), (20, AGG [cI ((x1.getD i73.toNat dnod).parent), cS ((x1.getD i73.toNat dnod).name), cI ((x1.getD i73.toNat dnod).value)]), (24, AGG [cI ((x2.getD i73.toNat dnod).parent), cS ((x2.getD i73.toNat dnod).name), cI ((x2.getD i73.toNat dnod).value)])]) (st' := ⟨[(0, .one (.e (.sl 0 0 x1.length))), (1, .one (.e (.sl 1 0 x2.length))), (5, I i73), (20, AGG [cI ((x1.getD i73.toNat dnod).parent), cS ((x1.getD i73.toNat dnod).name), cI ((x1.getD i73.toNat dnod).value)]), (24, AGG [cI ((x2.getD i73.toNat dnod).parent), cS ((x2.getD i73.toNat dnod).name), cI ((x2.getD i73.toNat dnod).value)])], [.row .nod x1 false, .row .nod x2 false]⟩) (n2 := 2) (by kernel_rfl) ⟨hg98, hg98, trivial, trivial, hg99, hg99, trivial, trivial, trivial⟩ rfl ?_
        refine WD_all [8] (n := 1) (by kernel_rfl) rfl ?_
        refine WM_call [] Try.f48 rfl rfl (by kernel_rfl) Try.func48 rfl (by kernel_rfl) (laws_eqNode_ok (x1.getD i73.toNat dnod) (x2.getD i73.toNat dnod) b100 hc101) (trivial) rfl (And.intro rfl (And.intro rfl (trivial))) ?_
        refine WD_takeK [9] [0, 1, 5, 26] [0, 1, 5, 26] (φ := True) (ls' := #[true, true, true, true, true, true, true, true, true, true]) (Ts' := [(0, .one (.e (.sl 0 0 x1.length))), (1, .one (.e (.sl 1 0 x2.length))), (5, I i73), (26, B (!b100))]) (st' := ⟨[(0, .one (.e (.sl 0 0 x1.length))), (1, .one (.e (.sl 1 0 x2.length))), (5, I i73), (26, B (!b100))], [.row .nod x1 false, .row .nod x2 false]⟩) (n2 := 0) (by kernel_rfl) trivial rfl ?_
        exact WD_done [0, 1] [0, 1, 5, 26] (st' := ⟨[(0, .one (.e (.sl 0 0 x1.length))), (1, .one (.e (.sl 1 0 x2.length))), (5, I i73), (26, B (!b100))], [.row .nod x1 false, .row .nod x2 false]⟩) (by kernel_rfl) (by kernel_rfl) (And.intro rfl rfl)
      · rintro _ _ ⟨rfl, rfl⟩
        refine thenS_n ?_
        refine iteO_e h (fun hb103 h => W_true rfl hb103 ?_) (fun hb103 h => W_false rfl hb103 ?_)
        · refine W_seq ?_
          refine W_region ?_
          refine WO_step 1 [0, 1] [4] True ⟨[(4, B false)], [.row .nod x1 false, .row .nod x2 false]⟩ (by kernel_rfl) trivial ?_
          refine WO_nil rfl ?_
          refine thenS_n ?_
          refine W_ret ?_
          refine blockS_r ?_
          refine thenS_r ?_
          refine thenS_r ?_
          cases h
          exact And.intro rfl rfl
        · refine W_sub [0, 1] [0, 1, 5] (st' := ⟨[(0, .one (.e (.sl 0 0 x1.length))), (1, .one (.e (.sl 1 0 x2.length))), (5, I i73)], [.row .nod x1 false, .row .nod x2 false]⟩) (by kernel_rfl) ?_
          refine W_skip ?_
          refine blockS_n ?_
          refine thenS_n ?_
          refine W_region ?_
          refine WO_step 3 [0, 1] [0, 1, 5] (True ∧ True) ⟨[(0, .one (.e (.sl 0 0 x1.length))), (1, .one (.e (.sl 1 0 x2.length))), (5, I (w64 (i73 + 1)))], [.row .nod x1 false, .row .nod x2 false]⟩ (by kernel_rfl) ⟨trivial, trivial⟩ ?_
          refine WO_nil rfl ?_
          refine thenS_n ?_
          exact ih _ h
    · refine W_sub [0, 1] [] (st' := ⟨[], [.row .nod x1 false, .row .nod x2 false]⟩) (by kernel_rfl) ?_
      refine W_exit ?_
      refine thenS_e ?_
      refine thenS_e ?_
      cases h
      exact And.intro rfl rfl

def laws_eqNodeS (n : Nat) (x1 : List Nod) (x2 : List Nod) : Option (Bool) :=
 iteO (!decide (((x1.length : Nat) : Int) = ((x2.length : Nat) : Int)))
 (some false)
 (bindO (laws_eqNodeS_L1 x1 x2 n 0) fun v104 =>
 match v104 with
 | (.inl _) => (some false)
 | (.inr _) => (some true)
)

theorem laws_eqNodeS_ok (n : Nat) (x1 : List Nod) (x2 : List Nod) (b53 : Bool) (h : laws_eqNodeS n x1 x2 = some b53) : FOk EE 19 [.one (.e (.sl 0 0 x1.length)), .one (.e (.sl 1 0 x2.length))] [.row .nod x1 false, .row .nod x2 false] (B b53) [.row .nod x1 false, .row .nod x2 false] := by
  unfold laws_eqNodeS at h
  refine FOk_of_W 27 2 Try.func19 rfl rfl (Nat.le_of_ble_eq_true rfl) rfl (fun w X θ => ?_)
  refine W_seq ?_
  refine W_region ?_
  refine WO_step 1 [0, 1] [0, 1] True ⟨[(0, .one (.e (.sl 0 0 x1.length))), (1, .one (.e (.sl 1 0 x2.length)))], [.row .nod x1 false, .row .nod x2 false]⟩ (by kernel_rfl) trivial ?_
  refine WO_nil rfl ?_
  refine thenS_n ?_
  refine W_seq ?_
  refine W_seq ?_
  refine W_region ?_
  refine WO_step 5 [0, 1] [0, 1, 10] (True ∧ (True ∧ (True ∧ True))) ⟨[(0, .one (.e (.sl 0 0 x1.length))), (1, .one (.e (.sl 1 0 x2.length))), (10, B (!decide (((x1.length : Nat) : Int) = ((x2.length : Nat) : Int))))], [.row .nod x1 false, .row .nod x2 false]⟩ (by kernel_rfl) ⟨trivial, trivial, trivial, trivial⟩ ?_
  refine WO_nil rfl ?_
  refine thenS_n ?_
  refine iteO_e h (fun hb55 h => W_true rfl hb55 ?_) (fun hb55 h => W_false rfl hb55 ?_)
  · refine W_seq ?_
    refine W_region ?_
    refine WO_step 1 [0, 1] [4] True ⟨[(4, B false)], [.row .nod x1 false, .row .nod x2 false]⟩ (by kernel_rfl) trivial ?_
    refine WO_nil rfl ?_
    refine thenS_n ?_
    refine W_ret ?_
    refine thenS_r ?_
    cases h
    exact ⟨[0, 1], True, by kernel_rfl, trivial⟩
  · refine W_sub [0, 1] [0, 1] (st' := ⟨[(0, .one (.e (.sl 0 0 x1.length))), (1, .one (.e (.sl 1 0 x2.length)))], [.row .nod x1 false, .row .nod x2 false]⟩) (by kernel_rfl) ?_
    refine W_skip ?_
    refine thenS_n ?_
    refine W_seq ?_
    refine W_seq ?_
    refine W_region ?_
    refine WO_step 1 [0, 1] [0, 1, 5] True ⟨[(0, .one (.e (.sl 0 0 x1.length))), (1, .one (.e (.sl 1 0 x2.length))), (5, I 0)], [.row .nod x1 false, .row .nod x2 false]⟩ (by kernel_rfl) trivial ?_
    refine WO_nil rfl ?_
    refine thenS_n ?_
    refine W_block ?_
    refine W_loop ?_
    refine bindO_e h (fun v104 hv104 h => ?_)
    refine WL_cut (laws_eqNodeS_L1_ok w X θ x1 x2 v104 n 0 hv104) ?_
    rcases v104 with _ | _
    · rintro _ _ ⟨rfl, rfl⟩
      refine blockS_r ?_
      refine thenS_r ?_
      cases h
      exact ⟨[0, 1], True, by kernel_rfl, trivial⟩
    · rintro _ _ ⟨rfl, rfl⟩
      refine blockS_y ?_
      refine thenS_n ?_
      refine W_seq ?_
      refine W_region ?_
      refine WO_step 1 [0, 1] [4] True ⟨[(4, B true)], [.row .nod x1 false, .row .nod x2 false]⟩ (by kernel_rfl) trivial ?_
      refine WO_nil rfl ?_
      refine thenS_n ?_
      refine W_ret ?_
      cases h
      exact ⟨[0, 1], True, by kernel_rfl, trivial⟩

/- laws.eqEdit -/
def laws_eqEdit (x1 : Edt) (x2 : Edt) : Option (Bool) :=
 iteO (!decide (x1.kind = x2.kind))
 (some false)
 (iteO (!decide (x1.path = x2.path))
 (some false)
 (iteO (!decide (x1.value = x2.value))
 (some false)
 (some true)))

theorem laws_eqEdit_ok (x1 : Edt) (x2 : Edt) (b9 : Bool) (h : laws_eqEdit x1 x2 = some b9) : FOk EE 49 [AGG [cI x1.kind, cS x1.path, cI x1.value], AGG [cI x2.kind, cS x2.path, cI x2.value]] [] (B b9) [] := by
  unfold laws_eqEdit at h
  refine FOk_of_W 20 0 Try.func49 rfl rfl (Nat.le_of_ble_eq_true rfl) rfl (fun w X θ => ?_)
  refine W_seq ?_
  refine W_region ?_
  refine WO_step 3 [0, 1] [2, 3] (True ∧ (True ∧ True)) ⟨[(2, .one (.e (.p 0 0))), (3, .one (.e (.p 1 0)))], [.cells [cI x1.kind, cS x1.path, cI x1.value], .cells [cI x2.kind, cS x2.path, cI x2.value]]⟩ (by kernel_rfl) ⟨trivial, trivial, trivial⟩ ?_
  refine WO_nil rfl ?_
  refine thenS_n ?_
  refine W_seq ?_
  refine W_seq ?_
  refine W_region ?_
  refine WO_step 5 [0, 1] [2, 3, 9] (True ∧ (True ∧ (True ∧ True))) ⟨[(2, .one (.e (.p 0 0))), (3, .one (.e (.p 1 0))), (9, B (!decide (x1.kind = x2.kind)))], [.cells [cI x1.kind, cS x1.path, cI x1.value], .cells [cI x2.kind, cS x2.path, cI x2.value]]⟩ (by kernel_rfl) ⟨trivial, trivial, trivial, trivial⟩ ?_
  refine WO_nil rfl ?_
  refine thenS_n ?_
  refine iteO_e h (fun hb11 h => W_true rfl hb11 ?_) (fun hb11 h => W_false rfl hb11 ?_)
  · refine W_seq ?_
    refine W_region ?_
    refine WO_step 1 [] [4] True ⟨[(4, B false)], []⟩ (by kernel_rfl) trivial ?_
    refine WO_nil rfl ?_
    refine thenS_n ?_
    refine W_ret ?_
    refine thenS_r ?_
    cases h
    exact ⟨[], True, by kernel_rfl, trivial⟩
  · refine W_sub [0, 1] [2, 3] (st' := ⟨[(2, .one (.e (.p 0 0))), (3, .one (.e (.p 1 0)))], [.cells [cI x1.kind, cS x1.path, cI x1.value], .cells [cI x2.kind, cS x2.path, cI x2.value]]⟩) (by kernel_rfl) ?_
    refine W_skip ?_
    refine thenS_n ?_
    refine W_seq ?_
    refine W_seq ?_
    refine W_region ?_
    refine WO_step 5 [0, 1] [2, 3, 14] (True ∧ (True ∧ (True ∧ True))) ⟨[(2, .one (.e (.p 0 0))), (3, .one (.e (.p 1 0))), (14, B (!decide (x1.path = x2.path)))], [.cells [cI x1.kind, cS x1.path, cI x1.value], .cells [cI x2.kind, cS x2.path, cI x2.value]]⟩ (by kernel_rfl) ⟨trivial, trivial, trivial, trivial⟩ ?_
    refine WO_nil rfl ?_
    refine thenS_n ?_
    refine iteO_e h (fun hb13 h => W_true rfl hb13 ?_) (fun hb13 h => W_false rfl hb13 ?_)
    · refine W_seq ?_
      refine W_region ?_
      refine WO_step 1 [] [4] True ⟨[(4, B false)], []⟩ (by kernel_rfl) trivial ?_
      refine WO_nil rfl ?_
      refine thenS_n ?_
      refine W_ret ?_
      refine thenS_r ?_
      cases h
      exact ⟨[], True, by kernel_rfl, trivial⟩
    · refine W_sub [0, 1] [2, 3] (st' := ⟨[(2, .one (.e (.p 0 0))), (3, .one (.e (.p 1 0)))], [.cells [cI x1.kind, cS x1.path, cI x1.value], .cells [cI x2.kind, cS x2.path, cI x2.value]]⟩) (by kernel_rfl) ?_
      refine W_skip ?_
      refine thenS_n ?_
      refine W_seq ?_
      refine W_seq ?_
      refine W_region ?_
      refine WO_step 5 [] [19] (True ∧ (True ∧ (True ∧ True))) ⟨[(19, B (!decide (x1.value = x2.value)))], []⟩ (by kernel_rfl) ⟨trivial, trivial, trivial, trivial⟩ ?_
      refine WO_nil rfl ?_
      refine thenS_n ?_
      refine iteO_e h (fun hb15 h => W_true rfl hb15 ?_) (fun hb15 h => W_false rfl hb15 ?_)
      · refine W_seq ?_
        refine W_region ?_
        refine WO_step 1 [] [4] True ⟨[(4, B false)], []⟩ (by kernel_rfl) trivial ?_
        refine WO_nil rfl ?_
        refine thenS_n ?_
        refine W_ret ?_
        refine thenS_r ?_
        cases h
        exact ⟨[], True, by kernel_rfl, trivial⟩
      · refine W_sub [] [] (st' := ⟨[], []⟩) (by kernel_rfl) ?_
        refine W_skip ?_
        refine thenS_n ?_
        refine W_seq ?_
        refine W_region ?_
        refine WO_step 1 [] [4] True ⟨[(4, B true)], []⟩ (by kernel_rfl) trivial ?_
        refine WO_nil rfl ?_
        refine thenS_n ?_
        refine W_ret ?_
        cases h
        exact ⟨[], True, by kernel_rfl, trivial⟩

/- laws.eqEditS -/
def laws_eqEditS_L1 (x1 : List Edt) (x2 : List Edt) : Nat → Int → Option ((Unit) ⊕ (Unit))
| 0, _ => none
| n + 1, i73 =>
 iteO (decide (i73 < ((x1.length : Nat) : Int)))
 (guardO (0 ≤ i73 ∧ i73 < ((x1.length : Nat) : Int)) <|
 guardO (0 ≤ i73 ∧ i73 < ((x2.length : Nat) : Int)) <|
 bindO (laws_eqEdit (x1.getD i73.toNat dedt) (x2.getD i73.toNat dedt)) fun b100 =>
 iteO (!b100)
 (some (.inl ()))
 (laws_eqEditS_L1 x1 x2 n (w64 (i73 + 1))))
 (some (.inr ()))

theorem laws_eqEditS_L1_ok (w : World) (X : Nat → Prop) (θ : List Loc) (x1 : List Edt) (x2 : List Edt) (v : (Unit) ⊕ (Unit)) : ∀ (n : Nat) (i73 : Int), laws_eqEditS_L1 x1 x2 n i73 = some v → WL EE ⟨w, X, θ, 27, 2⟩ (subC [1, 1, 0, 1, 4, 4] (bodyC Try.f20)) (fun (e : Exit) (s : St) => (match v with | (.inl _) => e = .ret ∧ s = ⟨[(4, B false)], [.row .edt x1 false, .row .edt x2 false]⟩ | (.inr _) => e = .exit 0 ∧ s = ⟨[], [.row .edt x1 false, .row .edt x2 false]⟩ : Prop)) ⟨[(0, .one (.e (.sl 0 0 x1.length))), (1, .one (.e (.sl 1 0 x2.length))), (5, I i73)], [.row .edt x1 false, .row .edt x2 false]⟩ := by
  intro n
  induction n with
  | zero => intro _ h; exact none_e h
  | succ n ih =>
    intro i73 h
    rw [laws_eqEditS_L1] at h
    refine WL_round ?_
    refine W_seq ?_
    refine W_seq ?_
    refine W_region ?_
    refine WO_step 4 [0, 1] [0, 1, 5, 14] (True ∧ (True ∧ True)) ⟨[(0, .one (.e (.sl 0 0 x1.length))), (1, .one (.e (.sl 1 0 x2.length))), (5, I i73), (14, B (decide (i73 < ((x1.length : Nat) : Int))))], [.row .edt x1 false, .row .edt x2 false]⟩ (by kernel_rfl) ⟨trivial, trivial, trivial⟩ ?_
    refine WO_nil rfl ?_
    refine thenS_n ?_
    refine iteO_e h (fun hb91 h => W_true rfl hb91 ?_) (fun hb91 h => W_false rfl hb91 ?_)
    · refine W_sub [0, 1] [0, 1, 5] (st' := ⟨[(0, .one (.e (.sl 0 0 x1.length))), (1, .one (.e (.sl 1 0 x2.length))), (5, I i73)], [.row .edt x1 false, .row .edt x2 false]⟩) (by kernel_rfl) ?_
      refine W_skip ?_
      refine thenS_n ?_
      refine W_seq ?_
      refine W_block ?_
      refine W_seq ?_
      refine guardO_e h (fun hg98 h => ?_)
      refine guardO_e h (fun hg99 h => ?_)
      refine bindO_e h (fun b100 hc101 h => ?_)
      refine W_cut (Q' := fun (e : Exit) (s : St) => e = .normal ∧ s = ⟨[(0, .one (.e (.sl 0 0 x1.length))), (1, .one (.e (.sl 1 0 x2.length))), (5, I i73), (26, B (!b100))], [.row .edt x1 false, .row .edt x2 false]⟩) ?_ ?_
      · refine W_draw [] false (by kernel_rfl) (by kernel_rfl) ?_
        refine WD_takeK [0, 1, 2, 3, 4, 5, 6, 7] [0, 1, 5, 20, 24] [0, 1, 5, 20, 24] (φ := ((0 ≤ i73 ∧ i73 < ((x1.length : Nat) : Int)) ∧ (0 ≤ i73 ∧ i73 < ((x1.length : Nat) : Int)) ∧ (True ∧ True ∧ ((0 ≤ i73 ∧ i73 < ((x2.length : Nat) : Int)) ∧ (0 ≤ i73 ∧ i73 < ((x2.length : Nat) : Int)) ∧ (True ∧ True ∧ True))))) (ls' := #[true, true, true, true, true, true, true, true, false, false]) (Ts' := [(0, .one (.e (.sl 0 0 x1.length))), (1, .one (.e (.sl 1 0 x2.length))), (5, I i73), (20, AGG [cI ((x1.getD i73.toNat dedt).kind), cS ((x1.getD i73.toNat dedt).path), cI ((x1.getD i73.toNat dedt).value)]), (24, AGG [cI ((x2.getD i73.toNat dedt).kind), cS ((x2.getD i73.toNat dedt).path), cI ((x2.getD i73.toNat dedt).value)])]) (st' := ⟨[(0, .one (.e (.sl 0 0 x1.length))), (1, .one (.e (.sl 1 0 x2.length))), (5, I i73), (20, AGG [cI ((x1.getD i73.toNat dedt).kind), cS ((x1.getD i73.toNat dedt).path), cI ((x1.getD i73.toNat dedt).value)]), (24, AGG [cI ((x2.getD i73.toNat dedt).kind), cS ((x2.getD i73.toNat dedt).path), cI ((x2.getD i73.toNat dedt).value)])], [.row .edt x1 false, .row .edt x2 false]⟩) (n2 := 2) (by kernel_rfl) ⟨hg98, hg98, trivial, trivial, hg99, hg99, trivial, trivial, trivial⟩ rfl ?_
        refine WD_all [8] (n := 1) (by kernel_rfl) rfl ?_
        refine WM_call [] Try.f49 rfl rfl (by kernel_rfl) Try.func49 rfl (by kernel_rfl) (laws_eqEdit_ok (x1.getD i73.toNat dedt) (x2.getD i73.toNat dedt) b100 hc101) (trivial) rfl (And.intro rfl (And.intro rfl (trivial))) ?_
        refine WD_takeK [9] [0, 1, 5, 26] [0, 1, 5, 26] (φ := True) (ls' := #[true, true, true, true, true, true, true, true, true, true]) (Ts' := [(0, .one (.e (.sl 0 0 x1.length))), (1, .one (.e (.sl 1 0 x2.length))), (5, I i73), (26, B (!b100))]) (st' := ⟨[(0, .one (.e (.sl 0 0 x1.length))), (1, .one (.e (.sl 1 0 x2.length))), (5, I i73), (26, B (!b100))], [.row .edt x1 false, .row .edt x2 false]⟩) (n2 := 0) (by kernel_rfl) trivial rfl ?_
        exact WD_done [0, 1] [0, 1, 5, 26] (st' := ⟨[(0, .one (.e (.sl 0 0 x1.length))), (1, .one (.e (.sl 1 0 x2.length))), (5, I i73), (26, B (!b100))], [.row .edt x1 false, .row .edt x2 false]⟩) (by kernel_rfl) (by kernel_rfl) (And.intro rfl rfl)
      · rintro _ _ ⟨rfl, rfl⟩
        refine thenS_n ?_
        refine iteO_e h (fun hb103 h => W_true rfl hb103 ?_) (fun hb103 h => W_false rfl hb103 ?_)
        · refine W_seq ?_
          refine W_region ?_
          refine WO_step 1 [0, 1] [4] True ⟨[(4, B false)], [.row .edt x1 false, .row .edt x2 false]⟩ (by kernel_rfl) trivial ?_
          refine WO_nil rfl ?_
          refine thenS_n ?_
          refine W_ret ?_
          refine blockS_r ?_
          refine thenS_r ?_
          refine thenS_r ?_
          cases h
          exact And.intro rfl rfl
        · refine W_sub [0, 1] [0, 1, 5] (st' := ⟨[(0, .one (.e (.sl 0 0 x1.length))), (1, .one (.e (.sl 1 0 x2.length))), (5, I i73)], [.row .edt x1 false, .row .edt x2 false]⟩) (by kernel_rfl) ?_
          refine W_skip ?_
          refine blockS_n ?_
          refine thenS_n ?_
          refine W_region ?_
          refine WO_step 3 [0, 1] [0, 1, 5] (True ∧ True) ⟨[(0, .one (.e (.sl 0 0 x1.length))), (1, .one (.e (.sl 1 0 x2.length))), (5, I (w64 (i73 + 1)))], [.row .edt x1 false, .row .edt x2 false]⟩ (by kernel_rfl) ⟨trivial, trivial⟩ ?_
          refine WO_nil rfl ?_
          refine thenS_n ?_
          exact ih _ h
    · refine W_sub [0, 1] [] (st' := ⟨[], [.row .edt x1 false, .row .edt x2 false]⟩) (by kernel_rfl) ?_
      refine W_exit ?_
      refine thenS_e ?_
      refine thenS_e ?_
      cases h
      exact And.intro rfl rfl

def laws_eqEditS (n : Nat) (x1 : List Edt) (x2 : List Edt) : Option (Bool) :=
 iteO (!decide (((x1.length : Nat) : Int) = ((x2.length : Nat) : Int)))
 (some false)
 (bindO (laws_eqEditS_L1 x1 x2 n 0) fun v104 =>
 match v104 with
 | (.inl _) => (some false)
 | (.inr _) => (some true)
)

theorem laws_eqEditS_ok (n : Nat) (x1 : List Edt) (x2 : List Edt) (b53 : Bool) (h : laws_eqEditS n x1 x2 = some b53) : FOk EE 20 [.one (.e (.sl 0 0 x1.length)), .one (.e (.sl 1 0 x2.length))] [.row .edt x1 false, .row .edt x2 false] (B b53) [.row .edt x1 false, .row .edt x2 false] := by
  unfold laws_eqEditS at h
  refine FOk_of_W 27 2 Try.func20 rfl rfl (Nat.le_of_ble_eq_true rfl) rfl (fun w X θ => ?_)
  refine W_seq ?_
  refine W_region ?_
  refine WO_step 1 [0, 1] [0, 1] True ⟨[(0, .one (.e (.sl 0 0 x1.length))), (1, .one (.e (.sl 1 0 x2.length)))], [.row .edt x1 false, .row .edt x2 false]⟩ (by kernel_rfl) trivial ?_
  refine WO_nil rfl ?_
  refine thenS_n ?_
  refine W_seq ?_
  refine W_seq ?_
  refine W_region ?_
  refine WO_step 5 [0, 1] [0, 1, 10] (True ∧ (True ∧ (True ∧ True))) ⟨[(0, .one (.e (.sl 0 0 x1.length))), (1, .one (.e (.sl 1 0 x2.length))), (10, B (!decide (((x1.length : Nat) : Int) = ((x2.length : Nat) : Int))))], [.row .edt x1 false, .row .edt x2 false]⟩ (by kernel_rfl) ⟨trivial, trivial, trivial, trivial⟩ ?_
  refine WO_nil rfl ?_
  refine thenS_n ?_
  refine iteO_e h (fun hb55 h => W_true rfl hb55 ?_) (fun hb55 h => W_false rfl hb55 ?_)
  · refine W_seq ?_
    refine W_region ?_
    refine WO_step 1 [0, 1] [4] True ⟨[(4, B false)], [.row .edt x1 false, .row .edt x2 false]⟩ (by kernel_rfl) trivial ?_
    refine WO_nil rfl ?_
    refine thenS_n ?_
    refine W_ret ?_
    refine thenS_r ?_
    cases h
    exact ⟨[0, 1], True, by kernel_rfl, trivial⟩
  · refine W_sub [0, 1] [0, 1] (st' := ⟨[(0, .one (.e (.sl 0 0 x1.length))), (1, .one (.e (.sl 1 0 x2.length)))], [.row .edt x1 false, .row .edt x2 false]⟩) (by kernel_rfl) ?_
    refine W_skip ?_
    refine thenS_n ?_
    refine W_seq ?_
    refine W_seq ?_
    refine W_region ?_
    refine WO_step 1 [0, 1] [0, 1, 5] True ⟨[(0, .one (.e (.sl 0 0 x1.length))), (1, .one (.e (.sl 1 0 x2.length))), (5, I 0)], [.row .edt x1 false, .row .edt x2 false]⟩ (by kernel_rfl) trivial ?_
    refine WO_nil rfl ?_
    refine thenS_n ?_
    refine W_block ?_
    refine W_loop ?_
    refine bindO_e h (fun v104 hv104 h => ?_)
    refine WL_cut (laws_eqEditS_L1_ok w X θ x1 x2 v104 n 0 hv104) ?_
    rcases v104 with _ | _
    · rintro _ _ ⟨rfl, rfl⟩
      refine blockS_r ?_
      refine thenS_r ?_
      cases h
      exact ⟨[0, 1], True, by kernel_rfl, trivial⟩
    · rintro _ _ ⟨rfl, rfl⟩
      refine blockS_y ?_
      refine thenS_n ?_
      refine W_seq ?_
      refine W_region ?_
      refine WO_step 1 [0, 1] [4] True ⟨[(4, B true)], [.row .edt x1 false, .row .edt x2 false]⟩ (by kernel_rfl) trivial ?_
      refine WO_nil rfl ?_
      refine thenS_n ?_
      refine W_ret ?_
      cases h
      exact ⟨[0, 1], True, by kernel_rfl, trivial⟩

/- laws.markText -/
def laws_markText_L1 : Nat → Int → Str → Option (Str)
| 0, _, _ => none
| n + 1, i42, s43 =>
 iteO (decide (0 < i42))
 (guardO ((bytesOf (([(IntKind.u8.wrap (w64 (48 + (i42.tmod 10))))].drop 0).take ([(IntKind.u8.wrap (w64 (48 + (i42.tmod 10))))].length))).length + s43.length ≤ 1099511627776) <|
 laws_markText_L1  n (w64 (i42.tdiv 10)) ((bytesOf (([(IntKind.u8.wrap (w64 (48 + (i42.tmod 10))))].drop 0).take ([(IntKind.u8.wrap (w64 (48 + (i42.tmod 10))))].length))) ++ s43))
 (some s43)

theorem laws_markText_L1_ok (w : World) (X : Nat → Prop) (θ : List Loc)  (s50 : Str) : ∀ (n : Nat) (i42 : Int) (s43 : Str), laws_markText_L1  n i42 s43 = some s50 → WL EE ⟨w, X, θ, 20, 0⟩ (subC [1, 1, 1, 0, 4, 4] (bodyC Try.f50)) (fun (e : Exit) (s : St) => e = .exit 0 ∧ s = ⟨[(3, S s50)], []⟩) ⟨[(0, I i42), (3, S s43)], []⟩ := by
  intro n
  induction n with
  | zero => intro _ _ h; exact none_e h
  | succ n ih =>
    intro i42 s43 h
    rw [laws_markText_L1] at h
    refine WL_round ?_
    refine W_seq ?_
    refine W_seq ?_
    refine W_region ?_
    refine WO_step 2 [] [0, 3, 7] (True ∧ True) ⟨[(0, I i42), (3, S s43), (7, B (decide (0 < i42)))], []⟩ (by kernel_rfl) ⟨trivial, trivial⟩ ?_
    refine WO_nil rfl ?_
    refine thenS_n ?_
    refine iteO_e h (fun hb53 h => W_true rfl hb53 ?_) (fun hb53 h => W_false rfl hb53 ?_)
    · refine W_sub [] [0, 3] (st' := ⟨[(0, I i42), (3, S s43)], []⟩) (by kernel_rfl) ?_
      refine W_skip ?_
      refine thenS_n ?_
      refine W_block ?_
      refine W_seq ?_
      refine W_region ?_
      refine guardO_e h (fun hg55 h => ?_)
      refine WO_step 9 [] [0, 3] (((10 : Int) ≠ 0) ∧ (True ∧ (True ∧ (True ∧ (((bytesOf (([(IntKind.u8.wrap (w64 (48 + (i42.tmod 10))))].drop 0).take ([(IntKind.u8.wrap (w64 (48 + (i42.tmod 10))))].length))).length + s43.length ≤ 1099511627776) ∧ True))))) ⟨[(0, I i42), (3, S ((bytesOf (([(IntKind.u8.wrap (w64 (48 + (i42.tmod 10))))].drop 0).take ([(IntKind.u8.wrap (w64 (48 + (i42.tmod 10))))].length))) ++ s43))], []⟩ (by kernel_rfl) ⟨(by decide), trivial, trivial, trivial, hg55, trivial⟩ ?_
      refine WO_nil rfl ?_
      refine thenS_n ?_
      refine W_region ?_
      refine WO_step 3 [] [0, 3] (((10 : Int) ≠ 0) ∧ True) ⟨[(0, I (w64 (i42.tdiv 10))), (3, S ((bytesOf (([(IntKind.u8.wrap (w64 (48 + (i42.tmod 10))))].drop 0).take ([(IntKind.u8.wrap (w64 (48 + (i42.tmod 10))))].length))) ++ s43))], []⟩ (by kernel_rfl) ⟨(by decide), trivial⟩ ?_
      refine WO_nil rfl ?_
      refine blockS_n ?_
      refine thenS_n ?_
      exact ih _ _ h
    · refine W_sub [] [3] (st' := ⟨[(3, S s43)], []⟩) (by kernel_rfl) ?_
      refine W_exit ?_
      refine thenS_e ?_
      refine thenS_e ?_
      cases h
      exact And.intro rfl rfl

def laws_markText (n : Nat) (i1 : Int) : Option (Str) :=
 iteO (decide (i1 ≤ 0))
 (some [109, 48])
 (bindO (laws_markText_L1  n i1 []) fun s50 =>
 guardO ([109].length + s50.length ≤ 1099511627776) <|
 some ([109] ++ s50))

theorem laws_markText_ok (n : Nat) (i1 : Int) (s29 : Str) (h : laws_markText n i1 = some s29) : FOk EE 50 [I i1] [] (S s29) [] := by
  unfold laws_markText at h
  refine FOk_of_W 20 0 Try.func50 rfl rfl (Nat.le_of_ble_eq_true rfl) rfl (fun w X θ => ?_)
  refine W_seq ?_
  refine W_region ?_
  refine WO_step 1 [] [0] True ⟨[(0, I i1)], []⟩ (by kernel_rfl) trivial ?_
  refine WO_nil rfl ?_
  refine thenS_n ?_
  refine W_seq ?_
  refine W_seq ?_
  refine W_region ?_
  refine WO_step 2 [] [0, 5] (True ∧ True) ⟨[(0, I i1), (5, B (decide (i1 ≤ 0)))], []⟩ (by kernel_rfl) ⟨trivial, trivial⟩ ?_
  refine WO_nil rfl ?_
  refine thenS_n ?_
  refine iteO_e h (fun hb31 h => W_true rfl hb31 ?_) (fun hb31 h => W_false rfl hb31 ?_)
  · refine W_seq ?_
    refine W_region ?_
    refine WO_step 1 [] [2] True ⟨[(2, S [109, 48])], []⟩ (by kernel_rfl) trivial ?_
    refine WO_nil rfl ?_
    refine thenS_n ?_
    refine W_ret ?_
    refine thenS_r ?_
    cases h
    exact ⟨[], True, by kernel_rfl, trivial⟩
  · refine W_sub [] [0] (st' := ⟨[(0, I i1)], []⟩) (by kernel_rfl) ?_
    refine W_skip ?_
    refine thenS_n ?_
    refine W_seq ?_
    refine W_region ?_
    refine WO_step 1 [] [0, 3] True ⟨[(0, I i1), (3, S [])], []⟩ (by kernel_rfl) trivial ?_
    refine WO_nil rfl ?_
    refine thenS_n ?_
    refine W_seq ?_
    refine W_block ?_
    refine W_loop ?_
    refine bindO_e h (fun s50 hs50 h => ?_)
    refine WL_cut (laws_markText_L1_ok w X θ  s50 n i1 [] hs50) ?_
    rintro _ _ ⟨rfl, rfl⟩
    refine blockS_y ?_
    refine thenS_n ?_
    refine W_seq ?_
    refine W_region ?_
    refine guardO_e h (fun hg57 h => ?_)
    refine WO_step 3 [] [2] (([109].length + s50.length ≤ 1099511627776) ∧ True) ⟨[(2, S ([109] ++ s50))], []⟩ (by kernel_rfl) ⟨hg57, trivial⟩ ?_
    refine WO_nil rfl ?_
    refine thenS_n ?_
    refine W_ret ?_
    cases h
    exact ⟨[], True, by kernel_rfl, trivial⟩

/- laws.markNodeS -/
def laws_markNodeS_L1 (k2 : Nat) : Nat → (List Nod) → Int → Int → Option (((List Nod) × Int))
| 0, _, _, _ => none
| n + 1, x81, i82, i83 =>
 iteO (decide (i83 < ((k2 : Nat) : Int)))
 (guardO (0 ≤ i83 ∧ i83 < ((k2 : Nat) : Int)) <|
 bindO (laws_markText n (w64 (i82 + 1))) fun s110 =>
 guardO (0 ≤ i83 ∧ i83 < ((k2 : Nat) : Int)) <|
 guardO (0 ≤ i83 ∧ i83 < ((k2 : Nat) : Int)) <|
 laws_markNodeS_L1 k2 n (((x81.set i83.toNat (⟨i82, (x81.getD i83.toNat dnod).name, (x81.getD i83.toNat dnod).value⟩ : Nod)).set i83.toNat (⟨((x81.set i83.toNat (⟨i82, (x81.getD i83.toNat dnod).name, (x81.getD i83.toNat dnod).value⟩ : Nod)).getD i83.toNat dnod).parent, s110, ((x81.set i83.toNat (⟨i82, (x81.getD i83.toNat dnod).name, (x81.getD i83.toNat dnod).value⟩ : Nod)).getD i83.toNat dnod).value⟩ : Nod)).set i83.toNat (⟨(((x81.set i83.toNat (⟨i82, (x81.getD i83.toNat dnod).name, (x81.getD i83.toNat dnod).value⟩ : Nod)).set i83.toNat (⟨((x81.set i83.toNat (⟨i82, (x81.getD i83.toNat dnod).name, (x81.getD i83.toNat dnod).value⟩ : Nod)).getD i83.toNat dnod).parent, s110, ((x81.set i83.toNat (⟨i82, (x81.getD i83.toNat dnod).name, (x81.getD i83.toNat dnod).value⟩ : Nod)).getD i83.toNat dnod).value⟩ : Nod)).getD i83.toNat dnod).parent, (((x81.set i83.toNat (⟨i82, (x81.getD i83.toNat dnod).name, (x81.getD i83.toNat dnod).value⟩ : Nod)).set i83.toNat (⟨((x81.set i83.toNat (⟨i82, (x81.getD i83.toNat dnod).name, (x81.getD i83.toNat dnod).value⟩ : Nod)).getD i83.toNat dnod).parent, s110, ((x81.set i83.toNat (⟨i82, (x81.getD i83.toNat dnod).name, (x81.getD i83.toNat dnod).value⟩ : Nod)).getD i83.toNat dnod).value⟩ : Nod)).getD i83.toNat dnod).name, (w64 ((w64 (i82 + 1)) + 1))⟩ : Nod)) (w64 ((w64 ((w64 (i82 + 1)) + 1)) + 1)) (w64 (i83 + 1)))
 (some (x81, i82))

theorem laws_markNodeS_L1_ok (w : World) (X : Nat → Prop) (θ : List Loc) (k2 : Nat) (v : ((List Nod) × Int)) : ∀ (n : Nat) (x81 : List Nod) (i82 : Int) (i83 : Int), laws_markNodeS_L1 k2 n x81 i82 i83 = some v → WL EE ⟨w, X, θ, 35, 1⟩ (subC [1, 0, 1, 4, 4] (bodyC Try.f21)) (fun (e : Exit) (s : St) => (match v with | (x99, i100) => e = .exit 0 ∧ s = ⟨[(1, I i100)], [.row .nod x99 true]⟩ : Prop)) ⟨[(0, .one (.e (.sl 0 0 k2))), (1, I i82), (5, I i83)], [.row .nod x81 true]⟩ := by
  intro n
  induction n with
  | zero => intro _ _ _ h; exact none_e h
  | succ n ih =>
    intro x81 i82 i83 h
    rw [laws_markNodeS_L1] at h
    refine WL_round ?_
    refine W_seq ?_
    refine W_seq ?_
    refine W_region ?_
    refine WO_step 4 [0] [0, 1, 5, 9] (True ∧ (True ∧ True)) ⟨[(0, .one (.e (.sl 0 0 k2))), (1, I i82), (5, I i83), (9, B (decide (i83 < ((k2 : Nat) : Int))))], [.row .nod x81 true]⟩ (by kernel_rfl) ⟨trivial, trivial, trivial⟩ ?_
    refine WO_nil rfl ?_
    refine thenS_n ?_
    refine iteO_e h (fun hb103 h => W_true rfl hb103 ?_) (fun hb103 h => W_false rfl hb103 ?_)
    · refine W_sub [0] [0, 1, 5] (st' := ⟨[(0, .one (.e (.sl 0 0 k2))), (1, I i82), (5, I i83)], [.row .nod x81 true]⟩) (by kernel_rfl) ?_
      refine W_skip ?_
      refine thenS_n ?_
      refine W_seq ?_
      refine W_block ?_
      refine W_seq ?_
      refine W_region ?_
      refine guardO_e h (fun hg109 h => ?_)
      refine WO_step 6 [0] [0, 1, 5] ((0 ≤ i83 ∧ i83 < ((k2 : Nat) : Int)) ∧ (True ∧ True)) ⟨[(0, .one (.e (.sl 0 0 k2))), (1, I i82), (5, I i83)], [.row .nod (x81.set i83.toNat (⟨i82, (x81.getD i83.toNat dnod).name, (x81.getD i83.toNat dnod).value⟩ : Nod)) true]⟩ (by kernel_rfl) ⟨hg109, trivial, trivial⟩ ?_
      refine WO_nil rfl ?_
      refine thenS_n ?_
      refine W_seq ?_
      refine W_region ?_
      refine WO_step 3 [0] [0, 1, 5] (True ∧ True) ⟨[(0, .one (.e (.sl 0 0 k2))), (1, I (w64 (i82 + 1))), (5, I i83)], [.row .nod (x81.set i83.toNat (⟨i82, (x81.getD i83.toNat dnod).name, (x81.getD i83.toNat dnod).value⟩ : Nod)) true]⟩ (by kernel_rfl) ⟨trivial, trivial⟩ ?_
      refine WO_nil rfl ?_
      refine thenS_n ?_
      refine W_seq ?_
      refine W_region ?_
      refine WO_step 3 [0] [0, 1, 5, 19, 20, 21] True ⟨[(0, .one (.e (.sl 0 0 k2))), (1, I (w64 (i82 + 1))), (5, I i83), (19, .one (.e (.sl 0 0 k2))), (20, I i83), (21, I (w64 (i82 + 1)))], [.row .nod (x81.set i83.toNat (⟨i82, (x81.getD i83.toNat dnod).name, (x81.getD i83.toNat dnod).value⟩ : Nod)) true]⟩ (by kernel_rfl) trivial ?_
      refine bindO_e h (fun s110 hc111 h => ?_)
      refine WO_call [] Try.f50 rfl rfl rfl (by kernel_rfl) Try.func50 rfl (by kernel_rfl) (laws_markText_ok n (w64 (i82 + 1)) s110 hc111) (trivial) rfl ?_
      refine guardO_e h (fun hg112 h => ?_)
      refine WO_step 3 [0] [0, 1, 5] ((0 ≤ i83 ∧ i83 < ((k2 : Nat) : Int)) ∧ (True ∧ True)) ⟨[(0, .one (.e (.sl 0 0 k2))), (1, I (w64 (i82 + 1))), (5, I i83)], [.row .nod ((x81.set i83.toNat (⟨i82, (x81.getD i83.toNat dnod).name, (x81.getD i83.toNat dnod).value⟩ : Nod)).set i83.toNat (⟨((x81.set i83.toNat (⟨i82, (x81.getD i83.toNat dnod).name, (x81.getD i83.toNat dnod).value⟩ : Nod)).getD i83.toNat dnod).parent, s110, ((x81.set i83.toNat (⟨i82, (x81.getD i83.toNat dnod).name, (x81.getD i83.toNat dnod).value⟩ : Nod)).getD i83.toNat dnod).value⟩ : Nod)) true]⟩ (by kernel_rfl) ⟨hg112, trivial, trivial⟩ ?_
      refine WO_nil rfl ?_
      refine thenS_n ?_
      refine W_seq ?_
      refine W_region ?_
      refine WO_step 3 [0] [0, 1, 5] (True ∧ True) ⟨[(0, .one (.e (.sl 0 0 k2))), (1, I (w64 ((w64 (i82 + 1)) + 1))), (5, I i83)], [.row .nod ((x81.set i83.toNat (⟨i82, (x81.getD i83.toNat dnod).name, (x81.getD i83.toNat dnod).value⟩ : Nod)).set i83.toNat (⟨((x81.set i83.toNat (⟨i82, (x81.getD i83.toNat dnod).name, (x81.getD i83.toNat dnod).value⟩ : Nod)).getD i83.toNat dnod).parent, s110, ((x81.set i83.toNat (⟨i82, (x81.getD i83.toNat dnod).name, (x81.getD i83.toNat dnod).value⟩ : Nod)).getD i83.toNat dnod).value⟩ : Nod)) true]⟩ (by kernel_rfl) ⟨trivial, trivial⟩ ?_
      refine WO_nil rfl ?_
      refine thenS_n ?_
      refine W_seq ?_
      refine W_region ?_
      refine guardO_e h (fun hg113 h => ?_)
      refine WO_step 6 [0] [0, 1, 5] ((0 ≤ i83 ∧ i83 < ((k2 : Nat) : Int)) ∧ (True ∧ True)) ⟨[(0, .one (.e (.sl 0 0 k2))), (1, I (w64 ((w64 (i82 + 1)) + 1))), (5, I i83)], [.row .nod (((x81.set i83.toNat (⟨i82, (x81.getD i83.toNat dnod).name, (x81.getD i83.toNat dnod).value⟩ : Nod)).set i83.toNat (⟨((x81.set i83.toNat (⟨i82, (x81.getD i83.toNat dnod).name, (x81.getD i83.toNat dnod).value⟩ : Nod)).getD i83.toNat dnod).parent, s110, ((x81.set i83.toNat (⟨i82, (x81.getD i83.toNat dnod).name, (x81.getD i83.toNat dnod).value⟩ : Nod)).getD i83.toNat dnod).value⟩ : Nod)).set i83.toNat (⟨(((x81.set i83.toNat (⟨i82, (x81.getD i83.toNat dnod).name, (x81.getD i83.toNat dnod).value⟩ : Nod)).set i83.toNat (⟨((x81.set i83.toNat (⟨i82, (x81.getD i83.toNat dnod).name, (x81.getD i83.toNat dnod).value⟩ : Nod)).getD i83.toNat dnod).parent, s110, ((x81.set i83.toNat (⟨i82, (x81.getD i83.toNat dnod).name, (x81.getD i83.toNat dnod).value⟩ : Nod)).getD i83.toNat dnod).value⟩ : Nod)).getD i83.toNat dnod).parent, (((x81.set i83.toNat (⟨i82, (x81.getD i83.toNat dnod).name, (x81.getD i83.toNat dnod).value⟩ : Nod)).set i83.toNat (⟨((x81.set i83.toNat (⟨i82, (x81.getD i83.toNat dnod).name, (x81.getD i83.toNat dnod).value⟩ : Nod)).getD i83.toNat dnod).parent, s110, ((x81.set i83.toNat (⟨i82, (x81.getD i83.toNat dnod).name, (x81.getD i83.toNat dnod).value⟩ : Nod)).getD i83.toNat dnod).value⟩ : Nod)).getD i83.toNat dnod).name, (w64 ((w64 (i82 + 1)) + 1))⟩ : Nod)) true]⟩ (by kernel_rfl) ⟨hg113, trivial, trivial⟩ ?_
      refine WO_nil rfl ?_
      refine thenS_n ?_
      refine W_region ?_
      refine WO_step 3 [0] [0, 1, 5] (True ∧ True) ⟨[(0, .one (.e (.sl 0 0 k2))), (1, I (w64 ((w64 ((w64 (i82 + 1)) + 1)) + 1))), (5, I i83)], [.row .nod (((x81.set i83.toNat (⟨i82, (x81.getD i83.toNat dnod).name, (x81.getD i83.toNat dnod).value⟩ : Nod)).set i83.toNat (⟨((x81.set i83.toNat (⟨i82, (x81.getD i83.toNat dnod).name, (x81.getD i83.toNat dnod).value⟩ : Nod)).getD i83.toNat dnod).parent, s110, ((x81.set i83.toNat (⟨i82, (x81.getD i83.toNat dnod).name, (x81.getD i83.toNat dnod).value⟩ : Nod)).getD i83.toNat dnod).value⟩ : Nod)).set i83.toNat (⟨(((x81.set i83.toNat (⟨i82, (x81.getD i83.toNat dnod).name, (x81.getD i83.toNat dnod).value⟩ : Nod)).set i83.toNat (⟨((x81.set i83.toNat (⟨i82, (x81.getD i83.toNat dnod).name, (x81.getD i83.toNat dnod).value⟩ : Nod)).getD i83.toNat dnod).parent, s110, ((x81.set i83.toNat (⟨i82, (x81.getD i83.toNat dnod).name, (x81.getD i83.toNat dnod).value⟩ : Nod)).getD i83.toNat dnod).value⟩ : Nod)).getD i83.toNat dnod).parent, (((x81.set i83.toNat (⟨i82, (x81.getD i83.toNat dnod).name, (x81.getD i83.toNat dnod).value⟩ : Nod)).set i83.toNat (⟨((x81.set i83.toNat (⟨i82, (x81.getD i83.toNat dnod).name, (x81.getD i83.toNat dnod).value⟩ : Nod)).getD i83.toNat dnod).parent, s110, ((x81.set i83.toNat (⟨i82, (x81.getD i83.toNat dnod).name, (x81.getD i83.toNat dnod).value⟩ : Nod)).getD i83.toNat dnod).value⟩ : Nod)).getD i83.toNat dnod).name, (w64 ((w64 (i82 + 1)) + 1))⟩ : Nod)) true]⟩ (by kernel_rfl) ⟨trivial, trivial⟩ ?_
      refine WO_nil rfl ?_
      refine blockS_n ?_
      refine thenS_n ?_
      refine W_region ?_
      refine WO_step 3 [0] [0, 1, 5] (True ∧ True) ⟨[(0, .one (.e (.sl 0 0 k2))), (1, I (w64 ((w64 ((w64 (i82 + 1)) + 1)) + 1))), (5, I (w64 (i83 + 1)))], [.row .nod (((x81.set i83.toNat (⟨i82, (x81.getD i83.toNat dnod).name, (x81.getD i83.toNat dnod).value⟩ : Nod)).set i83.toNat (⟨((x81.set i83.toNat (⟨i82, (x81.getD i83.toNat dnod).name, (x81.getD i83.toNat dnod).value⟩ : Nod)).getD i83.toNat dnod).parent, s110, ((x81.set i83.toNat (⟨i82, (x81.getD i83.toNat dnod).name, (x81.getD i83.toNat dnod).value⟩ : Nod)).getD i83.toNat dnod).value⟩ : Nod)).set i83.toNat (⟨(((x81.set i83.toNat (⟨i82, (x81.getD i83.toNat dnod).name, (x81.getD i83.toNat dnod).value⟩ : Nod)).set i83.toNat (⟨((x81.set i83.toNat (⟨i82, (x81.getD i83.toNat dnod).name, (x81.getD i83.toNat dnod).value⟩ : Nod)).getD i83.toNat dnod).parent, s110, ((x81.set i83.toNat (⟨i82, (x81.getD i83.toNat dnod).name, (x81.getD i83.toNat dnod).value⟩ : Nod)).getD i83.toNat dnod).value⟩ : Nod)).getD i83.toNat dnod).parent, (((x81.set i83.toNat (⟨i82, (x81.getD i83.toNat dnod).name, (x81.getD i83.toNat dnod).value⟩ : Nod)).set i83.toNat (⟨((x81.set i83.toNat (⟨i82, (x81.getD i83.toNat dnod).name, (x81.getD i83.toNat dnod).value⟩ : Nod)).getD i83.toNat dnod).parent, s110, ((x81.set i83.toNat (⟨i82, (x81.getD i83.toNat dnod).name, (x81.getD i83.toNat dnod).value⟩ : Nod)).getD i83.toNat dnod).value⟩ : Nod)).getD i83.toNat dnod).name, (w64 ((w64 (i82 + 1)) + 1))⟩ : Nod)) true]⟩ (by kernel_rfl) ⟨trivial, trivial⟩ ?_
      refine WO_nil rfl ?_
      refine thenS_n ?_
      exact ih _ _ _ h
    · refine W_sub [0] [1] (st' := ⟨[(1, I i82)], [.row .nod x81 true]⟩) (by kernel_rfl) ?_
      refine W_exit ?_
      refine thenS_e ?_
      refine thenS_e ?_
      cases h
      exact And.intro rfl rfl

def laws_markNodeS (n : Nat) (x1 : List Nod) (k2 : Nat) (i3 : Int) : Option ((List Nod) × Int) :=
 bindO (laws_markNodeS_L1 k2 n x1 i3 0) fun v114 =>
 match v114 with
 | (x99, i100) => (some (x99, i100))


theorem laws_markNodeS_ok (n : Nat) (x1 : List Nod) (k2 : Nat) (i3 : Int) (x58 : List Nod) (i59 : Int) (h : laws_markNodeS n x1 k2 i3 = some (x58, i59)) : FOk EE 21 [.one (.e (.sl 0 0 k2)), I i3] [.row .nod x1 true] (I i59) [.row .nod x58 true] := by
  unfold laws_markNodeS at h
  refine FOk_of_W 35 1 Try.func21 rfl rfl (Nat.le_of_ble_eq_true rfl) rfl (fun w X θ => ?_)
  refine W_seq ?_
  refine W_region ?_
  refine WO_step 1 [0] [0, 1] True ⟨[(0, .one (.e (.sl 0 0 k2))), (1, I i3)], [.row .nod x1 true]⟩ (by kernel_rfl) trivial ?_
  refine WO_nil rfl ?_
  refine thenS_n ?_
  refine W_seq ?_
  refine W_seq ?_
  refine W_region ?_
  refine WO_step 1 [0] [0, 1, 5] True ⟨[(0, .one (.e (.sl 0 0 k2))), (1, I i3), (5, I 0)], [.row .nod x1 true]⟩ (by kernel_rfl) trivial ?_
  refine WO_nil rfl ?_
  refine thenS_n ?_
  refine W_block ?_
  refine W_loop ?_
  refine bindO_e h (fun v114 hv114 h => ?_)
  refine WL_cut (laws_markNodeS_L1_ok w X θ k2 v114 n x1 i3 0 hv114) ?_
  obtain ⟨x99, i100⟩ := v114
  rintro _ _ ⟨rfl, rfl⟩
  refine blockS_y ?_
  refine thenS_n ?_
  refine W_seq ?_
  refine W_region ?_
  refine WO_step 2 [0] [4] True ⟨[(4, I i100)], [.row .nod x99 true]⟩ (by kernel_rfl) trivial ?_
  refine WO_nil rfl ?_
  refine thenS_n ?_
  refine W_ret ?_
  cases h
  exact ⟨[0], True, by kernel_rfl, trivial⟩

/- laws.markEditS -/
def laws_markEditS_L1 (k2 : Nat) : Nat → (List Edt) → Int → Int → Option (((List Edt) × Int))
| 0, _, _, _ => none
| n + 1, x81, i82, i83 =>
 iteO (decide (i83 < ((k2 : Nat) : Int)))
 (guardO (0 ≤ i83 ∧ i83 < ((k2 : Nat) : Int)) <|
 bindO (laws_markText n (w64 (i82 + 1))) fun s110 =>
 guardO (0 ≤ i83 ∧ i83 < ((k2 : Nat) : Int)) <|
 guardO (0 ≤ i83 ∧ i83 < ((k2 : Nat) : Int)) <|
 laws_markEditS_L1 k2 n (((x81.set i83.toNat (⟨i82, (x81.getD i83.toNat dedt).path, (x81.getD i83.toNat dedt).value⟩ : Edt)).set i83.toNat (⟨((x81.set i83.toNat (⟨i82, (x81.getD i83.toNat dedt).path, (x81.getD i83.toNat dedt).value⟩ : Edt)).getD i83.toNat dedt).kind, s110, ((x81.set i83.toNat (⟨i82, (x81.getD i83.toNat dedt).path, (x81.getD i83.toNat dedt).value⟩ : Edt)).getD i83.toNat dedt).value⟩ : Edt)).set i83.toNat (⟨(((x81.set i83.toNat (⟨i82, (x81.getD i83.toNat dedt).path, (x81.getD i83.toNat dedt).value⟩ : Edt)).set i83.toNat (⟨((x81.set i83.toNat (⟨i82, (x81.getD i83.toNat dedt).path, (x81.getD i83.toNat dedt).value⟩ : Edt)).getD i83.toNat dedt).kind, s110, ((x81.set i83.toNat (⟨i82, (x81.getD i83.toNat dedt).path, (x81.getD i83.toNat dedt).value⟩ : Edt)).getD i83.toNat dedt).value⟩ : Edt)).getD i83.toNat dedt).kind, (((x81.set i83.toNat (⟨i82, (x81.getD i83.toNat dedt).path, (x81.getD i83.toNat dedt).value⟩ : Edt)).set i83.toNat (⟨((x81.set i83.toNat (⟨i82, (x81.getD i83.toNat dedt).path, (x81.getD i83.toNat dedt).value⟩ : Edt)).getD i83.toNat dedt).kind, s110, ((x81.set i83.toNat (⟨i82, (x81.getD i83.toNat dedt).path, (x81.getD i83.toNat dedt).value⟩ : Edt)).getD i83.toNat dedt).value⟩ : Edt)).getD i83.toNat dedt).path, (w64 ((w64 (i82 + 1)) + 1))⟩ : Edt)) (w64 ((w64 ((w64 (i82 + 1)) + 1)) + 1)) (w64 (i83 + 1)))
 (some (x81, i82))

theorem laws_markEditS_L1_ok (w : World) (X : Nat → Prop) (θ : List Loc) (k2 : Nat) (v : ((List Edt) × Int)) : ∀ (n : Nat) (x81 : List Edt) (i82 : Int) (i83 : Int), laws_markEditS_L1 k2 n x81 i82 i83 = some v → WL EE ⟨w, X, θ, 35, 1⟩ (subC [1, 0, 1, 4, 4] (bodyC Try.f22)) (fun (e : Exit) (s : St) => (match v with | (x99, i100) => e = .exit 0 ∧ s = ⟨[(1, I i100)], [.row .edt x99 true]⟩ : Prop)) ⟨[(0, .one (.e (.sl 0 0 k2))), (1, I i82), (5, I i83)], [.row .edt x81 true]⟩ := by
  intro n
  induction n with
  | zero => intro _ _ _ h; exact none_e h
  | succ n ih =>
    intro x81 i82 i83 h
    rw [laws_markEditS_L1] at h
    refine WL_round ?_
    refine W_seq ?_
    refine W_seq ?_
    refine W_region ?_
    refine WO_step 4 [0] [0, 1, 5, 9] (True ∧ (True ∧ True)) ⟨[(0, .one (.e (.sl 0 0 k2))), (1, I i82), (5, I i83), (9, B (decide (i83 < ((k2 : Nat) : Int))))], [.row .edt x81 true]⟩ (by kernel_rfl) ⟨trivial, trivial, trivial⟩ ?_
    refine WO_nil rfl ?_
    refine thenS_n ?_
    refine iteO_e h (fun hb103 h => W_true rfl hb103 ?_) (fun hb103 h => W_false rfl hb103 ?_)
    · refine W_sub [0] [0, 1, 5] (st' := ⟨[(0, .one (.e (.sl 0 0 k2))), (1, I i82), (5, I i83)], [.row .edt x81 true]⟩) (by kernel_rfl) ?_
      refine W_skip ?_
      refine thenS_n ?_
      refine W_seq ?_
      refine W_block ?_
      refine W_seq ?_
      refine W_region ?_
      refine guardO_e h (fun hg109 h => ?_)
      refine WO_step 6 [0] [0, 1, 5] ((0 ≤ i83 ∧ i83 < ((k2 : Nat) : Int)) ∧ (True ∧ True)) ⟨[(0, .one (.e (.sl 0 0 k2))), (1, I i82), (5, I i83)], [.row .edt (x81.set i83.toNat (⟨i82, (x81.getD i83.toNat dedt).path, (x81.getD i83.toNat dedt).value⟩ : Edt)) true]⟩ (by kernel_rfl) ⟨hg109, trivial, trivial⟩ ?_
      refine WO_nil rfl ?_
      refine thenS_n ?_
      refine W_seq ?_
      refine W_region ?_
      refine WO_step 3 [0] [0, 1, 5] (True ∧ True) ⟨[(0, .one (.e (.sl 0 0 k2))), (1, I (w64 (i82 + 1))), (5, I i83)], [.row .edt (x81.set i83.toNat (⟨i82, (x81.getD i83.toNat dedt).path, (x81.getD i83.toNat dedt).value⟩ : Edt)) true]⟩ (by kernel_rfl) ⟨trivial, trivial⟩ ?_
      refine WO_nil rfl ?_
      refine thenS_n ?_
      refine W_seq ?_
      refine W_region ?_
      refine WO_step 3 [0] [0, 1, 5, 19, 20, 21] True ⟨[(0, .one (.e (.sl 0 0 k2))), (1, I (w64 (i82 + 1))), (5, I i83), (19, .one (.e (.sl 0 0 k2))), (20, I i83), (21, I (w64 (i82 + 1)))], [.row .edt (x81.set i83.toNat (⟨i82, (x81.getD i83.toNat dedt).path, (x81.getD i83.toNat dedt).value⟩ : Edt)) true]⟩ (by kernel_rfl) trivial ?_
      refine bindO_e h (fun s110 hc111 h => ?_)
      refine WO_call [] Try.f50 rfl rfl rfl (by kernel_rfl) Try.func50 rfl (by kernel_rfl) (laws_markText_ok n (w64 (i82 + 1)) s110 hc111) (trivial) rfl ?_
      refine guardO_e h (fun hg112 h => ?_)
      refine WO_step 3 [0] [0, 1, 5] ((0 ≤ i83 ∧ i83 < ((k2 : Nat) : Int)) ∧ (True ∧ True)) ⟨[(0, .one (.e (.sl 0 0 k2))), (1, I (w64 (i82 + 1))), (5, I i83)], [.row .edt ((x81.set i83.toNat (⟨i82, (x81.getD i83.toNat dedt).path, (x81.getD i83.toNat dedt).value⟩ : Edt)).set i83.toNat (⟨((x81.set i83.toNat (⟨i82, (x81.getD i83.toNat dedt).path, (x81.getD i83.toNat dedt).value⟩ : Edt)).getD i83.toNat dedt).kind, s110, ((x81.set i83.toNat (⟨i82, (x81.getD i83.toNat dedt).path, (x81.getD i83.toNat dedt).value⟩ : Edt)).getD i83.toNat dedt).value⟩ : Edt)) true]⟩ (by kernel_rfl) ⟨hg112, trivial, trivial⟩ ?_
      refine WO_nil rfl ?_
      refine thenS_n ?_
      refine W_seq ?_
      refine W_region ?_
      refine WO_step 3 [0] [0, 1, 5] (True ∧ True) ⟨[(0, .one (.e (.sl 0 0 k2))), (1, I (w64 ((w64 (i82 + 1)) + 1))), (5, I i83)], [.row .edt ((x81.set i83.toNat (⟨i82, (x81.getD i83.toNat dedt).path, (x81.getD i83.toNat dedt).value⟩ : Edt)).set i83.toNat (⟨((x81.set i83.toNat (⟨i82, (x81.getD i83.toNat dedt).path, (x81.getD i83.toNat dedt).value⟩ : Edt)).getD i83.toNat dedt).kind, s110, ((x81.set i83.toNat (⟨i82, (x81.getD i83.toNat dedt).path, (x81.getD i83.toNat dedt).value⟩ : Edt)).getD i83.toNat dedt).value⟩ : Edt)) true]⟩ (by kernel_rfl) ⟨trivial, trivial⟩ ?_
      refine WO_nil rfl ?_
      refine thenS_n ?_
      refine W_seq ?_
      refine W_region ?_
      refine guardO_e h (fun hg113 h => ?_)
      refine WO_step 6 [0] [0, 1, 5] ((0 ≤ i83 ∧ i83 < ((k2 : Nat) : Int)) ∧ (True ∧ True)) ⟨[(0, .one (.e (.sl 0 0 k2))), (1, I (w64 ((w64 (i82 + 1)) + 1))), (5, I i83)], [.row .edt (((x81.set i83.toNat (⟨i82, (x81.getD i83.toNat dedt).path, (x81.getD i83.toNat dedt).value⟩ : Edt)).set i83.toNat (⟨((x81.set i83.toNat (⟨i82, (x81.getD i83.toNat dedt).path, (x81.getD i83.toNat dedt).value⟩ : Edt)).getD i83.toNat dedt).kind, s110, ((x81.set i83.toNat (⟨i82, (x81.getD i83.toNat dedt).path, (x81.getD i83.toNat dedt).value⟩ : Edt)).getD i83.toNat dedt).value⟩ : Edt)).set i83.toNat (⟨(((x81.set i83.toNat (⟨i82, (x81.getD i83.toNat dedt).path, (x81.getD i83.toNat dedt).value⟩ : Edt)).set i83.toNat (⟨((x81.set i83.toNat (⟨i82, (x81.getD i83.toNat dedt).path, (x81.getD i83.toNat dedt).value⟩ : Edt)).getD i83.toNat dedt).kind, s110, ((x81.set i83.toNat (⟨i82, (x81.getD i83.toNat dedt).path, (x81.getD i83.toNat dedt).value⟩ : Edt)).getD i83.toNat dedt).value⟩ : Edt)).getD i83.toNat dedt).kind, (((x81.set i83.toNat (⟨i82, (x81.getD i83.toNat dedt).path, (x81.getD i83.toNat dedt).value⟩ : Edt)).set i83.toNat (⟨((x81.set i83.toNat (⟨i82, (x81.getD i83.toNat dedt).path, (x81.getD i83.toNat dedt).value⟩ : Edt)).getD i83.toNat dedt).kind, s110, ((x81.set i83.toNat (⟨i82, (x81.getD i83.toNat dedt).path, (x81.getD i83.toNat dedt).value⟩ : Edt)).getD i83.toNat dedt).value⟩ : Edt)).getD i83.toNat dedt).path, (w64 ((w64 (i82 + 1)) + 1))⟩ : Edt)) true]⟩ (by kernel_rfl) ⟨hg113, trivial, trivial⟩ ?_
      refine WO_nil rfl ?_
      refine thenS_n ?_
      refine W_region ?_
      refine WO_step 3 [0] [0, 1, 5] (True ∧ True) ⟨[(0, .one (.e (.sl 0 0 k2))), (1, I (w64 ((w64 ((w64 (i82 + 1)) + 1)) + 1))), (5, I i83)], [.row .edt (((x81.set i83.toNat (⟨i82, (x81.getD i83.toNat dedt).path, (x81.getD i83.toNat dedt).value⟩ : Edt)).set i83.toNat (⟨((x81.set i83.toNat (⟨i82, (x81.getD i83.toNat dedt).path, (x81.getD i83.toNat dedt).value⟩ : Edt)).getD i83.toNat dedt).kind, s110, ((x81.set i83.toNat (⟨i82, (x81.getD i83.toNat dedt).path, (x81.getD i83.toNat dedt).value⟩ : Edt)).getD i83.toNat dedt).value⟩ : Edt)).set i83.toNat (⟨(((x81.set i83.toNat (⟨i82, (x81.getD i83.toNat dedt).path, (x81.getD i83.toNat dedt).value⟩ : Edt)).set i83.toNat (⟨((x81.set i83.toNat (⟨i82, (x81.getD i83.toNat dedt).path, (x81.getD i83.toNat dedt).value⟩ : Edt)).getD i83.toNat dedt).kind, s110, ((x81.set i83.toNat (⟨i82, (x81.getD i83.toNat dedt).path, (x81.getD i83.toNat dedt).value⟩ : Edt)).getD i83.toNat dedt).value⟩ : Edt)).getD i83.toNat dedt).kind, (((x81.set i83.toNat (⟨i82, (x81.getD i83.toNat dedt).path, (x81.getD i83.toNat dedt).value⟩ : Edt)).set i83.toNat (⟨((x81.set i83.toNat (⟨i82, (x81.getD i83.toNat dedt).path, (x81.getD i83.toNat dedt).value⟩ : Edt)).getD i83.toNat dedt).kind, s110, ((x81.set i83.toNat (⟨i82, (x81.getD i83.toNat dedt).path, (x81.getD i83.toNat dedt).value⟩ : Edt)).getD i83.toNat dedt).value⟩ : Edt)).getD i83.toNat dedt).path, (w64 ((w64 (i82 + 1)) + 1))⟩ : Edt)) true]⟩ (by kernel_rfl) ⟨trivial, trivial⟩ ?_
      refine WO_nil rfl ?_
      refine blockS_n ?_
      refine thenS_n ?_
      refine W_region ?_
      refine WO_step 3 [0] [0, 1, 5] (True ∧ True) ⟨[(0, .one (.e (.sl 0 0 k2))), (1, I (w64 ((w64 ((w64 (i82 + 1)) + 1)) + 1))), (5, I (w64 (i83 + 1)))], [.row .edt (((x81.set i83.toNat (⟨i82, (x81.getD i83.toNat dedt).path, (x81.getD i83.toNat dedt).value⟩ : Edt)).set i83.toNat (⟨((x81.set i83.toNat (⟨i82, (x81.getD i83.toNat dedt).path, (x81.getD i83.toNat dedt).value⟩ : Edt)).getD i83.toNat dedt).kind, s110, ((x81.set i83.toNat (⟨i82, (x81.getD i83.toNat dedt).path, (x81.getD i83.toNat dedt).value⟩ : Edt)).getD i83.toNat dedt).value⟩ : Edt)).set i83.toNat (⟨(((x81.set i83.toNat (⟨i82, (x81.getD i83.toNat dedt).path, (x81.getD i83.toNat dedt).value⟩ : Edt)).set i83.toNat (⟨((x81.set i83.toNat (⟨i82, (x81.getD i83.toNat dedt).path, (x81.getD i83.toNat dedt).value⟩ : Edt)).getD i83.toNat dedt).kind, s110, ((x81.set i83.toNat (⟨i82, (x81.getD i83.toNat dedt).path, (x81.getD i83.toNat dedt).value⟩ : Edt)).getD i83.toNat dedt).value⟩ : Edt)).getD i83.toNat dedt).kind, (((x81.set i83.toNat (⟨i82, (x81.getD i83.toNat dedt).path, (x81.getD i83.toNat dedt).value⟩ : Edt)).set i83.toNat (⟨((x81.set i83.toNat (⟨i82, (x81.getD i83.toNat dedt).path, (x81.getD i83.toNat dedt).value⟩ : Edt)).getD i83.toNat dedt).kind, s110, ((x81.set i83.toNat (⟨i82, (x81.getD i83.toNat dedt).path, (x81.getD i83.toNat dedt).value⟩ : Edt)).getD i83.toNat dedt).value⟩ : Edt)).getD i83.toNat dedt).path, (w64 ((w64 (i82 + 1)) + 1))⟩ : Edt)) true]⟩ (by kernel_rfl) ⟨trivial, trivial⟩ ?_
      refine WO_nil rfl ?_
      refine thenS_n ?_
      exact ih _ _ _ h
    · refine W_sub [0] [1] (st' := ⟨[(1, I i82)], [.row .edt x81 true]⟩) (by kernel_rfl) ?_
      refine W_exit ?_
      refine thenS_e ?_
      refine thenS_e ?_
      cases h
      exact And.intro rfl rfl

def laws_markEditS (n : Nat) (x1 : List Edt) (k2 : Nat) (i3 : Int) : Option ((List Edt) × Int) :=
 bindO (laws_markEditS_L1 k2 n x1 i3 0) fun v114 =>
 match v114 with
 | (x99, i100) => (some (x99, i100))


theorem laws_markEditS_ok (n : Nat) (x1 : List Edt) (k2 : Nat) (i3 : Int) (x58 : List Edt) (i59 : Int) (h : laws_markEditS n x1 k2 i3 = some (x58, i59)) : FOk EE 22 [.one (.e (.sl 0 0 k2)), I i3] [.row .edt x1 true] (I i59) [.row .edt x58 true] := by
  unfold laws_markEditS at h
  refine FOk_of_W 35 1 Try.func22 rfl rfl (Nat.le_of_ble_eq_true rfl) rfl (fun w X θ => ?_)
  refine W_seq ?_
  refine W_region ?_
  refine WO_step 1 [0] [0, 1] True ⟨[(0, .one (.e (.sl 0 0 k2))), (1, I i3)], [.row .edt x1 true]⟩ (by kernel_rfl) trivial ?_
  refine WO_nil rfl ?_
  refine thenS_n ?_
  refine W_seq ?_
  refine W_seq ?_
  refine W_region ?_
  refine WO_step 1 [0] [0, 1, 5] True ⟨[(0, .one (.e (.sl 0 0 k2))), (1, I i3), (5, I 0)], [.row .edt x1 true]⟩ (by kernel_rfl) trivial ?_
  refine WO_nil rfl ?_
  refine thenS_n ?_
  refine W_block ?_
  refine W_loop ?_
  refine bindO_e h (fun v114 hv114 h => ?_)
  refine WL_cut (laws_markEditS_L1_ok w X θ k2 v114 n x1 i3 0 hv114) ?_
  obtain ⟨x99, i100⟩ := v114
  rintro _ _ ⟨rfl, rfl⟩
  refine blockS_y ?_
  refine thenS_n ?_
  refine W_seq ?_
  refine W_region ?_
  refine WO_step 2 [0] [4] True ⟨[(4, I i100)], [.row .edt x99 true]⟩ (by kernel_rfl) trivial ?_
  refine WO_nil rfl ?_
  refine thenS_n ?_
  refine W_ret ?_
  cases h
  exact ⟨[0], True, by kernel_rfl, trivial⟩

/- laws.heldNodeS -/
def laws_heldNodeS_L1 (x1 : List Nod) : Nat → Int → Int → Option ((Unit) ⊕ (Int))
| 0, _, _ => none
| n + 1, i118, i119 =>
 iteO (decide (i119 < ((x1.length : Nat) : Int)))
 (guardO (0 ≤ i119 ∧ i119 < ((x1.length : Nat) : Int)) <|
 iteO (!decide (((x1.getD i119.toNat dnod).parent) = i118))
 (some (.inl ()))
 (guardO (0 ≤ i119 ∧ i119 < ((x1.length : Nat) : Int)) <|
 bindO (laws_markText n (w64 (i118 + 1))) fun s165 =>
 iteO (!decide (((x1.getD i119.toNat dnod).name) = s165))
 (some (.inl ()))
 (guardO (0 ≤ i119 ∧ i119 < ((x1.length : Nat) : Int)) <|
 iteO (!decide (((x1.getD i119.toNat dnod).value) = (w64 ((w64 (i118 + 1)) + 1))))
 (some (.inl ()))
 (laws_heldNodeS_L1 x1 n (w64 ((w64 ((w64 (i118 + 1)) + 1)) + 1)) (w64 (i119 + 1))))))
 (some (.inr i118))

theorem laws_heldNodeS_L1_ok (w : World) (X : Nat → Prop) (θ : List Loc) (x1 : List Nod) (v : (Unit) ⊕ (Int)) : ∀ (n : Nat) (i118 : Int) (i119 : Int), laws_heldNodeS_L1 x1 n i118 i119 = some v → WL EE ⟨w, X, θ, 41, 1⟩ (subC [1, 0, 1, 4, 4] (bodyC Try.f23)) (fun (e : Exit) (s : St) => (match v with | (.inl _) => e = .ret ∧ s = ⟨[(4, I (-1))], [.row .nod x1 false]⟩ | (.inr i146) => e = .exit 0 ∧ s = ⟨[(1, I i146)], [.row .nod x1 false]⟩ : Prop)) ⟨[(0, .one (.e (.sl 0 0 x1.length))), (1, I i118), (5, I i119)], [.row .nod x1 false]⟩ := by
  intro n
  induction n with
  | zero => intro _ _ h; exact none_e h
  | succ n ih =>
    intro i118 i119 h
    rw [laws_heldNodeS_L1] at h
    refine WL_round ?_
    refine W_seq ?_
    refine W_seq ?_
    refine W_region ?_
    refine WO_step 4 [0] [0, 1, 5, 9] (True ∧ (True ∧ True)) ⟨[(0, .one (.e (.sl 0 0 x1.length))), (1, I i118), (5, I i119), (9, B (decide (i119 < ((x1.length : Nat) : Int))))], [.row .nod x1 false]⟩ (by kernel_rfl) ⟨trivial, trivial, trivial⟩ ?_
    refine WO_nil rfl ?_
    refine thenS_n ?_
    refine iteO_e h (fun hb149 h => W_true rfl hb149 ?_) (fun hb149 h => W_false rfl hb149 ?_)
    · refine W_sub [0] [0, 1, 5] (st' := ⟨[(0, .one (.e (.sl 0 0 x1.length))), (1, I i118), (5, I i119)], [.row .nod x1 false]⟩) (by kernel_rfl) ?_
      refine W_skip ?_
      refine thenS_n ?_
      refine W_seq ?_
      refine W_block ?_
      refine W_seq ?_
      refine W_seq ?_
      refine W_region ?_
      refine guardO_e h (fun hg161 h => ?_)
      refine WO_step 7 [0] [0, 1, 5, 18] ((0 ≤ i119 ∧ i119 < ((x1.length : Nat) : Int)) ∧ (True ∧ (True ∧ True))) ⟨[(0, .one (.e (.sl 0 0 x1.length))), (1, I i118), (5, I i119), (18, B (!decide (((x1.getD i119.toNat dnod).parent) = i118)))], [.row .nod x1 false]⟩ (by kernel_rfl) ⟨hg161, trivial, trivial, trivial⟩ ?_
      refine WO_nil rfl ?_
      refine thenS_n ?_
      refine iteO_e h (fun hb163 h => W_true rfl hb163 ?_) (fun hb163 h => W_false rfl hb163 ?_)
      · refine W_seq ?_
        refine W_region ?_
        refine WO_step 1 [0] [4] True ⟨[(4, I (-1))], [.row .nod x1 false]⟩ (by kernel_rfl) trivial ?_
        refine WO_nil rfl ?_
        refine thenS_n ?_
        refine W_ret ?_
        refine thenS_r ?_
        refine blockS_r ?_
        refine thenS_r ?_
        refine thenS_r ?_
        cases h
        exact And.intro rfl rfl
      · refine W_sub [0] [0, 1, 5] (st' := ⟨[(0, .one (.e (.sl 0 0 x1.length))), (1, I i118), (5, I i119)], [.row .nod x1 false]⟩) (by kernel_rfl) ?_
        refine W_skip ?_
        refine thenS_n ?_
        refine W_seq ?_
        refine W_region ?_
        refine WO_step 3 [0] [0, 1, 5] (True ∧ True) ⟨[(0, .one (.e (.sl 0 0 x1.length))), (1, I (w64 (i118 + 1))), (5, I i119)], [.row .nod x1 false]⟩ (by kernel_rfl) ⟨trivial, trivial⟩ ?_
        refine WO_nil rfl ?_
        refine thenS_n ?_
        refine W_seq ?_
        refine W_seq ?_
        refine guardO_e h (fun hg164 h => ?_)
        refine bindO_e h (fun s165 hc166 h => ?_)
        refine W_cut (Q' := fun (e : Exit) (s : St) => e = .normal ∧ s = ⟨[(0, .one (.e (.sl 0 0 x1.length))), (1, I (w64 (i118 + 1))), (5, I i119), (28, B (!decide (((x1.getD i119.toNat dnod).name) = s165)))], [.row .nod x1 false]⟩) ?_ ?_
        · refine W_draw [] false (by kernel_rfl) (by kernel_rfl) ?_
          refine WD_takeK [0, 1, 2, 3, 4, 5] [0, 1, 5, 25, 26] [0, 1, 5, 25, 26] (φ := ((0 ≤ i119 ∧ i119 < ((x1.length : Nat) : Int)) ∧ (0 ≤ i119 ∧ i119 < ((x1.length : Nat) : Int)) ∧ (True ∧ True ∧ True))) (ls' := #[true, true, true, true, true, true, false, false]) (Ts' := [(0, .one (.e (.sl 0 0 x1.length))), (1, I (w64 (i118 + 1))), (5, I i119), (25, S ((x1.getD i119.toNat dnod).name)), (26, I (w64 (i118 + 1)))]) (st' := ⟨[(0, .one (.e (.sl 0 0 x1.length))), (1, I (w64 (i118 + 1))), (5, I i119), (25, S ((x1.getD i119.toNat dnod).name)), (26, I (w64 (i118 + 1)))], [.row .nod x1 false]⟩) (n2 := 2) (by kernel_rfl) ⟨hg164, hg164, trivial, trivial, trivial⟩ rfl ?_
          refine WD_all [6] (n := 1) (by kernel_rfl) rfl ?_
          refine WM_call [] Try.f50 rfl rfl (by kernel_rfl) Try.func50 rfl (by kernel_rfl) (laws_markText_ok n (w64 (i118 + 1)) s165 hc166) (trivial) rfl (And.intro rfl (trivial)) ?_
          refine WD_takeK [7] [0, 1, 5, 28] [0, 1, 5, 28] (φ := (True ∧ True ∧ True)) (ls' := #[true, true, true, true, true, true, true, true]) (Ts' := [(0, .one (.e (.sl 0 0 x1.length))), (1, I (w64 (i118 + 1))), (5, I i119), (28, B (!decide (((x1.getD i119.toNat dnod).name) = s165)))]) (st' := ⟨[(0, .one (.e (.sl 0 0 x1.length))), (1, I (w64 (i118 + 1))), (5, I i119), (28, B (!decide (((x1.getD i119.toNat dnod).name) = s165)))], [.row .nod x1 false]⟩) (n2 := 0) (by kernel_rfl) ⟨trivial, trivial, trivial⟩ rfl ?_
          exact WD_done [0] [0, 1, 5, 28] (st' := ⟨[(0, .one (.e (.sl 0 0 x1.length))), (1, I (w64 (i118 + 1))), (5, I i119), (28, B (!decide (((x1.getD i119.toNat dnod).name) = s165)))], [.row .nod x1 false]⟩) (by kernel_rfl) (by kernel_rfl) (And.intro rfl rfl)
        · rintro _ _ ⟨rfl, rfl⟩
          refine thenS_n ?_
          refine iteO_e h (fun hb168 h => W_true rfl hb168 ?_) (fun hb168 h => W_false rfl hb168 ?_)
          · refine W_seq ?_
            refine W_region ?_
            refine WO_step 1 [0] [4] True ⟨[(4, I (-1))], [.row .nod x1 false]⟩ (by kernel_rfl) trivial ?_
            refine WO_nil rfl ?_
            refine thenS_n ?_
            refine W_ret ?_
            refine thenS_r ?_
            refine blockS_r ?_
            refine thenS_r ?_
            refine thenS_r ?_
            cases h
            exact And.intro rfl rfl
          · refine W_sub [0] [0, 1, 5] (st' := ⟨[(0, .one (.e (.sl 0 0 x1.length))), (1, I (w64 (i118 + 1))), (5, I i119)], [.row .nod x1 false]⟩) (by kernel_rfl) ?_
            refine W_skip ?_
            refine thenS_n ?_
            refine W_seq ?_
            refine W_region ?_
            refine WO_step 3 [0] [0, 1, 5] (True ∧ True) ⟨[(0, .one (.e (.sl 0 0 x1.length))), (1, I (w64 ((w64 (i118 + 1)) + 1))), (5, I i119)], [.row .nod x1 false]⟩ (by kernel_rfl) ⟨trivial, trivial⟩ ?_
            refine WO_nil rfl ?_
            refine thenS_n ?_
            refine W_seq ?_
            refine W_seq ?_
            refine W_region ?_
            refine guardO_e h (fun hg169 h => ?_)
            refine WO_step 7 [0] [0, 1, 5, 37] ((0 ≤ i119 ∧ i119 < ((x1.length : Nat) : Int)) ∧ (True ∧ (True ∧ True))) ⟨[(0, .one (.e (.sl 0 0 x1.length))), (1, I (w64 ((w64 (i118 + 1)) + 1))), (5, I i119), (37, B (!decide (((x1.getD i119.toNat dnod).value) = (w64 ((w64 (i118 + 1)) + 1)))))], [.row .nod x1 false]⟩ (by kernel_rfl) ⟨hg169, trivial, trivial, trivial⟩ ?_
            refine WO_nil rfl ?_
            refine thenS_n ?_
            refine iteO_e h (fun hb171 h => W_true rfl hb171 ?_) (fun hb171 h => W_false rfl hb171 ?_)
            · refine W_seq ?_
              refine W_region ?_
              refine WO_step 1 [0] [4] True ⟨[(4, I (-1))], [.row .nod x1 false]⟩ (by kernel_rfl) trivial ?_
              refine WO_nil rfl ?_
              refine thenS_n ?_
              refine W_ret ?_
              refine thenS_r ?_
              refine blockS_r ?_
              refine thenS_r ?_
              refine thenS_r ?_
              cases h
              exact And.intro rfl rfl
            · refine W_sub [0] [0, 1, 5] (st' := ⟨[(0, .one (.e (.sl 0 0 x1.length))), (1, I (w64 ((w64 (i118 + 1)) + 1))), (5, I i119)], [.row .nod x1 false]⟩) (by kernel_rfl) ?_
              refine W_skip ?_
              refine thenS_n ?_
              refine W_region ?_
              refine WO_step 3 [0] [0, 1, 5] (True ∧ True) ⟨[(0, .one (.e (.sl 0 0 x1.length))), (1, I (w64 ((w64 ((w64 (i118 + 1)) + 1)) + 1))), (5, I i119)], [.row .nod x1 false]⟩ (by kernel_rfl) ⟨trivial, trivial⟩ ?_
              refine WO_nil rfl ?_
              refine blockS_n ?_
              refine thenS_n ?_
              refine W_region ?_
              refine WO_step 3 [0] [0, 1, 5] (True ∧ True) ⟨[(0, .one (.e (.sl 0 0 x1.length))), (1, I (w64 ((w64 ((w64 (i118 + 1)) + 1)) + 1))), (5, I (w64 (i119 + 1)))], [.row .nod x1 false]⟩ (by kernel_rfl) ⟨trivial, trivial⟩ ?_
              refine WO_nil rfl ?_
              refine thenS_n ?_
              exact ih _ _ h
    · refine W_sub [0] [1] (st' := ⟨[(1, I i118)], [.row .nod x1 false]⟩) (by kernel_rfl) ?_
      refine W_exit ?_
      refine thenS_e ?_
      refine thenS_e ?_
      cases h
      exact And.intro rfl rfl

def laws_heldNodeS (n : Nat) (x1 : List Nod) (i2 : Int) : Option (Int) :=
 bindO (laws_heldNodeS_L1 x1 n i2 0) fun v172 =>
 match v172 with
 | (.inl _) => (some (-1))
 | (.inr i146) => (some i146)


theorem laws_heldNodeS_ok (n : Nat) (x1 : List Nod) (i2 : Int) (i87 : Int) (h : laws_heldNodeS n x1 i2 = some i87) : FOk EE 23 [.one (.e (.sl 0 0 x1.length)), I i2] [.row .nod x1 false] (I i87) [.row .nod x1 false] := by
  unfold laws_heldNodeS at h
  refine FOk_of_W 41 1 Try.func23 rfl rfl (Nat.le_of_ble_eq_true rfl) rfl (fun w X θ => ?_)
  refine W_seq ?_
  refine W_region ?_
  refine WO_step 1 [0] [0, 1] True ⟨[(0, .one (.e (.sl 0 0 x1.length))), (1, I i2)], [.row .nod x1 false]⟩ (by kernel_rfl) trivial ?_
  refine WO_nil rfl ?_
  refine thenS_n ?_
  refine W_seq ?_
  refine W_seq ?_
  refine W_region ?_
  refine WO_step 1 [0] [0, 1, 5] True ⟨[(0, .one (.e (.sl 0 0 x1.length))), (1, I i2), (5, I 0)], [.row .nod x1 false]⟩ (by kernel_rfl) trivial ?_
  refine WO_nil rfl ?_
  refine thenS_n ?_
  refine W_block ?_
  refine W_loop ?_
  refine bindO_e h (fun v172 hv172 h => ?_)
  refine WL_cut (laws_heldNodeS_L1_ok w X θ x1 v172 n i2 0 hv172) ?_
  rcases v172 with _ | i146
  · rintro _ _ ⟨rfl, rfl⟩
    refine blockS_r ?_
    refine thenS_r ?_
    cases h
    exact ⟨[0], True, by kernel_rfl, trivial⟩
  · rintro _ _ ⟨rfl, rfl⟩
    refine blockS_y ?_
    refine thenS_n ?_
    refine W_seq ?_
    refine W_region ?_
    refine WO_step 2 [0] [4] True ⟨[(4, I i146)], [.row .nod x1 false]⟩ (by kernel_rfl) trivial ?_
    refine WO_nil rfl ?_
    refine thenS_n ?_
    refine W_ret ?_
    cases h
    exact ⟨[0], True, by kernel_rfl, trivial⟩

/- laws.FnExactApplyEdits -/
def laws_FnExactApplyEdits (n : Nat) (x1 : List Nod) (x2 : List Edt) : Option (Bool) :=
 bindO (laws_szNodeS n x1 1048576) fun i101 =>
 iteO (decide (i101 < 0))
 (some true)
 (bindO (laws_szEditS n x2 i101) fun i105 =>
 iteO (decide (i105 < 0))
 (some true)
 (bindO (laws_toNodeS n x1) fun x109 =>
 bindO (laws_toEditS n x2) fun x111 =>
 bindO (spec_ApplyEdits n x109 x111) fun (x113, b114) =>
 bindO (laws_toNodeS n x1) fun x116 =>
 bindO (laws_toEditS n x2) fun x118 =>
 bindO (impl_ApplyEdits n x116 x118) fun (x120, b121) =>
 bindO (laws_eqNodeS n x120 x113) fun b123 =>
 iteO ((!b123) || (!(b121 == b114)))
 (some false)
 (bindO (laws_toNodeS n x1) fun x130 =>
 bindO (laws_eqNodeS n x116 x130) fun b132 =>
 iteO (!b132)
 (some false)
 (bindO (laws_toEditS n x2) fun x136 =>
 bindO (laws_eqEditS n x118 x136) fun b138 =>
 iteO (!b138)
 (some false)
 (bindO (laws_markNodeS n x116 x116.length 1) fun (x142, i143) =>
 guardO (x116.length = x142.length) <|
 bindO (laws_markEditS n x118 x118.length i143) fun (x146, i147) =>
 guardO (x118.length = x146.length) <|
 bindO (iteO (decide (i147 < 0))
 (some true)
 (bindO (laws_eqNodeS n x120 x113) fun b157 =>
 iteO (!b157)
 (some true)
 (some (!(b121 == b114))))) fun b154 =>
 iteO b154
 (some false)
 (bindO (laws_markNodeS n x120 x120.length 1) fun (x162, i163) =>
 guardO (x120.length = x162.length) <|
 bindO (laws_heldNodeS n x162 1) fun i166 =>
 iteO (decide (i166 < 0))
 (some false)
 (iteO (!decide (i166 = i163))
 (some false)
 (bindO (laws_toNodeS n x1) fun x172 =>
 bindO (laws_toEditS n x2) fun x174 =>
 bindO (impl_ApplyEdits n x172 x174) fun (x176, b177) =>
 bindO (laws_eqNodeS n x176 x113) fun b179 =>
 iteO ((!b179) || (!(b177 == b114)))
 (some false)
 (bindO (laws_heldNodeS n x162 1) fun i186 =>
 iteO (decide (i186 < 0))
 (some false)
 (iteO (!decide (i186 = i163))
 (some false)
 (some true)))))))))))

theorem laws_FnExactApplyEdits_ok (n : Nat) (x1 : List Nod) (x2 : List Edt) (b100 : Bool) (h : laws_FnExactApplyEdits n x1 x2 = some b100) : FOk EE 6 [.one (.e (.sl 0 0 x1.length)), .one (.e (.sl 1 0 x2.length))] [.row .nod x1 false, .row .edt x2 false] (B b100) [.row .nod x1 false, .row .edt x2 false] := by
  unfold laws_FnExactApplyEdits at h
  refine FOk_of_W 119 2 Try.func6 rfl rfl (Nat.le_of_ble_eq_true rfl) rfl (fun w X θ => ?_)
  refine W_seq ?_
  refine W_region ?_
  refine WO_step 1 [0, 1] [0, 1] True ⟨[(0, .one (.e (.sl 0 0 x1.length))), (1, .one (.e (.sl 1 0 x2.length)))], [.row .nod x1 false, .row .edt x2 false]⟩ (by kernel_rfl) trivial ?_
  refine WO_nil rfl ?_
  refine thenS_n ?_
  refine W_seq ?_
  refine W_region ?_
  refine WO_step 1 [0, 1] [0, 1, 5] True ⟨[(0, .one (.e (.sl 0 0 x1.length))), (1, .one (.e (.sl 1 0 x2.length))), (5, I 1048576)], [.row .nod x1 false, .row .edt x2 false]⟩ (by kernel_rfl) trivial ?_
  refine WO_nil rfl ?_
  refine thenS_n ?_
  refine W_seq ?_
  refine W_region ?_
  refine WO_step 2 [0, 1] [0, 1, 17, 18] True ⟨[(0, .one (.e (.sl 0 0 x1.length))), (1, .one (.e (.sl 1 0 x2.length))), (17, .one (.e (.sl 0 0 x1.length))), (18, I 1048576)], [.row .nod x1 false, .row .edt x2 false]⟩ (by kernel_rfl) trivial ?_
  refine bindO_e h (fun i101 hc102 h => ?_)
  refine WO_call [.ro 0] Try.f15 rfl rfl rfl (by kernel_rfl) Try.func15 rfl (by kernel_rfl) (laws_szNodeS_ok n x1 1048576 i101 hc102) (And.intro (And.intro rfl rfl) (trivial)) rfl ?_
  refine WO_step 1 [0, 1] [0, 1, 5] True ⟨[(0, .one (.e (.sl 0 0 x1.length))), (1, .one (.e (.sl 1 0 x2.length))), (5, I i101)], [.row .nod x1 false, .row .edt x2 false]⟩ (by kernel_rfl) trivial ?_
  refine WO_nil rfl ?_
  refine thenS_n ?_
  refine W_seq ?_
  refine W_seq ?_
  refine W_region ?_
  refine WO_step 2 [0, 1] [0, 1, 5, 21] (True ∧ True) ⟨[(0, .one (.e (.sl 0 0 x1.length))), (1, .one (.e (.sl 1 0 x2.length))), (5, I i101), (21, B (decide (i101 < 0)))], [.row .nod x1 false, .row .edt x2 false]⟩ (by kernel_rfl) ⟨trivial, trivial⟩ ?_
  refine WO_nil rfl ?_
  refine thenS_n ?_
  refine iteO_e h (fun hb104 h => W_true rfl hb104 ?_) (fun hb104 h => W_false rfl hb104 ?_)
  · refine W_seq ?_
    refine W_region ?_
    refine WO_step 1 [0, 1] [4] True ⟨[(4, B true)], [.row .nod x1 false, .row .edt x2 false]⟩ (by kernel_rfl) trivial ?_
    refine WO_nil rfl ?_
    refine thenS_n ?_
    refine W_ret ?_
    refine thenS_r ?_
    cases h
    exact ⟨[0, 1], True, by kernel_rfl, trivial⟩
  · refine W_sub [0, 1] [0, 1, 5] (st' := ⟨[(0, .one (.e (.sl 0 0 x1.length))), (1, .one (.e (.sl 1 0 x2.length))), (5, I i101)], [.row .nod x1 false, .row .edt x2 false]⟩) (by kernel_rfl) ?_
    refine W_skip ?_
    refine thenS_n ?_
    refine W_seq ?_
    refine W_region ?_
    refine WO_step 2 [0, 1] [0, 1, 22, 23] True ⟨[(0, .one (.e (.sl 0 0 x1.length))), (1, .one (.e (.sl 1 0 x2.length))), (22, .one (.e (.sl 1 0 x2.length))), (23, I i101)], [.row .nod x1 false, .row .edt x2 false]⟩ (by kernel_rfl) trivial ?_
    refine bindO_e h (fun i105 hc106 h => ?_)
    refine WO_call [.ro 1] Try.f16 rfl rfl rfl (by kernel_rfl) Try.func16 rfl (by kernel_rfl) (laws_szEditS_ok n x2 i101 i105 hc106) (And.intro (And.intro rfl rfl) (trivial)) rfl ?_
    refine WO_step 1 [0, 1] [0, 1, 5] True ⟨[(0, .one (.e (.sl 0 0 x1.length))), (1, .one (.e (.sl 1 0 x2.length))), (5, I i105)], [.row .nod x1 false, .row .edt x2 false]⟩ (by kernel_rfl) trivial ?_
    refine WO_nil rfl ?_
    refine thenS_n ?_
    refine W_seq ?_
    refine W_seq ?_
    refine W_region ?_
    refine WO_step 2 [0, 1] [0, 1, 26] (True ∧ True) ⟨[(0, .one (.e (.sl 0 0 x1.length))), (1, .one (.e (.sl 1 0 x2.length))), (26, B (decide (i105 < 0)))], [.row .nod x1 false, .row .edt x2 false]⟩ (by kernel_rfl) ⟨trivial, trivial⟩ ?_
    refine WO_nil rfl ?_
    refine thenS_n ?_
    refine iteO_e h (fun hb108 h => W_true rfl hb108 ?_) (fun hb108 h => W_false rfl hb108 ?_)
    · refine W_seq ?_
      refine W_region ?_
      refine WO_step 1 [0, 1] [4] True ⟨[(4, B true)], [.row .nod x1 false, .row .edt x2 false]⟩ (by kernel_rfl) trivial ?_
      refine WO_nil rfl ?_
      refine thenS_n ?_
      refine W_ret ?_
      refine thenS_r ?_
      cases h
      exact ⟨[0, 1], True, by kernel_rfl, trivial⟩
    · refine W_sub [0, 1] [0, 1] (st' := ⟨[(0, .one (.e (.sl 0 0 x1.length))), (1, .one (.e (.sl 1 0 x2.length)))], [.row .nod x1 false, .row .edt x2 false]⟩) (by kernel_rfl) ?_
      refine W_skip ?_
      refine thenS_n ?_
      refine W_seq ?_
      refine W_region ?_
      refine WO_step 1 [0, 1] [0, 1, 28] True ⟨[(0, .one (.e (.sl 0 0 x1.length))), (1, .one (.e (.sl 1 0 x2.length))), (28, .one (.e (.sl 0 0 x1.length)))], [.row .nod x1 false, .row .edt x2 false]⟩ (by kernel_rfl) trivial ?_
      refine bindO_e h (fun x109 hc110 h => ?_)
      refine WO_call [.ro 0] Try.f17 rfl rfl rfl (by kernel_rfl) Try.func17 rfl (by kernel_rfl) (laws_toNodeS_ok n x1 x109 hc110) (And.intro (And.intro rfl rfl) (trivial)) rfl ?_
      refine WO_step 1 [0, 1, 2] [0, 1, 29, 30] True ⟨[(0, .one (.e (.sl 0 0 x1.length))), (1, .one (.e (.sl 1 0 x2.length))), (29, .one (.e (.sl 2 0 x109.length))), (30, .one (.e (.sl 1 0 x2.length)))], [.row .nod x1 false, .row .edt x2 false, .row .nod x109 true]⟩ (by kernel_rfl) trivial ?_
      refine bindO_e h (fun x111 hc112 h => ?_)
      refine WO_call [.ro 1] Try.f18 rfl rfl rfl (by kernel_rfl) Try.func18 rfl (by kernel_rfl) (laws_toEditS_ok n x2 x111 hc112) (And.intro (And.intro rfl rfl) (trivial)) rfl ?_
      refine WO_sub [0, 1, 2, 3] [0, 1, 29, 31] (st' := ⟨[(0, .one (.e (.sl 0 0 x1.length))), (1, .one (.e (.sl 1 0 x2.length))), (29, .one (.e (.sl 2 0 x109.length))), (31, .one (.e (.sl 3 0 x111.length)))], [.row .nod x1 false, .row .edt x2 false, .row .nod x109 true, .row .edt x111 true]⟩) (by kernel_rfl) ?_
      refine bindO_e h (fun v197 hc115 h => ?_)
      obtain ⟨x113, b114⟩ := v197
      refine WO_call [.ro 2, .ro 3] Try.f11 rfl rfl rfl (by kernel_rfl) Try.func11 rfl (by kernel_rfl) (spec_ApplyEdits_ok n x109 x111 x113 b114 hc115) (And.intro (And.intro rfl rfl) (And.intro (And.intro rfl rfl) (trivial))) rfl ?_
      refine WO_step 5 [0, 1, 4] [0, 1, 6, 7] True ⟨[(0, .one (.e (.sl 0 0 x1.length))), (1, .one (.e (.sl 1 0 x2.length))), (6, .one (.e (.sl 2 0 x113.length))), (7, B b114)], [.row .nod x1 false, .row .edt x2 false, .row .nod x113 true]⟩ (by kernel_rfl) trivial ?_
      refine WO_nil rfl ?_
      refine thenS_n ?_
      refine W_seq ?_
      refine W_region ?_
      refine WO_step 1 [0, 1, 2] [0, 1, 6, 7, 35] True ⟨[(0, .one (.e (.sl 0 0 x1.length))), (1, .one (.e (.sl 1 0 x2.length))), (6, .one (.e (.sl 2 0 x113.length))), (7, B b114), (35, .one (.e (.sl 0 0 x1.length)))], [.row .nod x1 false, .row .edt x2 false, .row .nod x113 true]⟩ (by kernel_rfl) trivial ?_
      refine bindO_e h (fun x116 hc117 h => ?_)
      refine WO_call [.ro 0] Try.f17 rfl rfl rfl (by kernel_rfl) Try.func17 rfl (by kernel_rfl) (laws_toNodeS_ok n x1 x116 hc117) (And.intro (And.intro rfl rfl) (trivial)) rfl ?_
      refine WO_step 1 [0, 1, 2, 3] [0, 1, 6, 7, 8] True ⟨[(0, .one (.e (.sl 0 0 x1.length))), (1, .one (.e (.sl 1 0 x2.length))), (6, .one (.e (.sl 2 0 x113.length))), (7, B b114), (8, .one (.e (.sl 3 0 x116.length)))], [.row .nod x1 false, .row .edt x2 false, .row .nod x113 true, .row .nod x116 true]⟩ (by kernel_rfl) trivial ?_
      refine WO_nil rfl ?_
      refine thenS_n ?_
      refine W_seq ?_
      refine W_region ?_
      refine WO_step 1 [0, 1, 2, 3] [0, 1, 6, 7, 8, 37] True ⟨[(0, .one (.e (.sl 0 0 x1.length))), (1, .one (.e (.sl 1 0 x2.length))), (6, .one (.e (.sl 2 0 x113.length))), (7, B b114), (8, .one (.e (.sl 3 0 x116.length))), (37, .one (.e (.sl 1 0 x2.length)))], [.row .nod x1 false, .row .edt x2 false, .row .nod x113 true, .row .nod x116 true]⟩ (by kernel_rfl) trivial ?_
      refine bindO_e h (fun x118 hc119 h => ?_)
      refine WO_call [.ro 1] Try.f18 rfl rfl rfl (by kernel_rfl) Try.func18 rfl (by kernel_rfl) (laws_toEditS_ok n x2 x118 hc119) (And.intro (And.intro rfl rfl) (trivial)) rfl ?_
      refine WO_step 1 [0, 1, 2, 3, 4] [0, 1, 6, 7, 8, 9] True ⟨[(0, .one (.e (.sl 0 0 x1.length))), (1, .one (.e (.sl 1 0 x2.length))), (6, .one (.e (.sl 2 0 x113.length))), (7, B b114), (8, .one (.e (.sl 3 0 x116.length))), (9, .one (.e (.sl 4 0 x118.length)))], [.row .nod x1 false, .row .edt x2 false, .row .nod x113 true, .row .nod x116 true, .row .edt x118 true]⟩ (by kernel_rfl) trivial ?_
      refine WO_nil rfl ?_
      refine thenS_n ?_
      refine W_seq ?_
      refine W_region ?_
      refine WO_step 2 [0, 1, 2, 3, 4] [0, 1, 6, 7, 8, 9, 40, 41] True ⟨[(0, .one (.e (.sl 0 0 x1.length))), (1, .one (.e (.sl 1 0 x2.length))), (6, .one (.e (.sl 2 0 x113.length))), (7, B b114), (8, .one (.e (.sl 3 0 x116.length))), (9, .one (.e (.sl 4 0 x118.length))), (40, .one (.e (.sl 3 0 x116.length))), (41, .one (.e (.sl 4 0 x118.length)))], [.row .nod x1 false, .row .edt x2 false, .row .nod x113 true, .row .nod x116 true, .row .edt x118 true]⟩ (by kernel_rfl) trivial ?_
      refine bindO_e h (fun v196 hc122 h => ?_)
      obtain ⟨x120, b121⟩ := v196
      refine WO_call [.ro 3, .ro 4] Try.f10 rfl rfl rfl (by kernel_rfl) Try.func10 rfl (by kernel_rfl) (impl_ApplyEdits_ok n x116 x118 x120 b121 hc122) (And.intro (And.intro rfl rfl) (And.intro (And.intro rfl rfl) (trivial))) rfl ?_
      refine WO_step 5 [0, 1, 2, 3, 4, 5] [0, 1, 6, 7, 8, 9, 10, 11] True ⟨[(0, .one (.e (.sl 0 0 x1.length))), (1, .one (.e (.sl 1 0 x2.length))), (6, .one (.e (.sl 2 0 x113.length))), (7, B b114), (8, .one (.e (.sl 3 0 x116.length))), (9, .one (.e (.sl 4 0 x118.length))), (10, .one (.e (.sl 5 0 x120.length))), (11, B b121)], [.row .nod x1 false, .row .edt x2 false, .row .nod x113 true, .row .nod x116 true, .row .edt x118 true, .row .nod x120 true]⟩ (by kernel_rfl) trivial ?_
      refine WO_nil rfl ?_
      refine thenS_n ?_
      refine W_seq ?_
      refine W_seq ?_
      refine W_region ?_
      refine WO_step 2 [0, 1, 2, 3, 4, 5] [0, 1, 6, 7, 8, 9, 10, 11, 45, 46] True ⟨[(0, .one (.e (.sl 0 0 x1.length))), (1, .one (.e (.sl 1 0 x2.length))), (6, .one (.e (.sl 2 0 x113.length))), (7, B b114), (8, .one (.e (.sl 3 0 x116.length))), (9, .one (.e (.sl 4 0 x118.length))), (10, .one (.e (.sl 5 0 x120.length))), (11, B b121), (45, .one (.e (.sl 5 0 x120.length))), (46, .one (.e (.sl 2 0 x113.length)))], [.row .nod x1 false, .row .edt x2 false, .row .nod x113 true, .row .nod x116 true, .row .edt x118 true, .row .nod x120 true]⟩ (by kernel_rfl) trivial ?_
      refine bindO_e h (fun b123 hc124 h => ?_)
      refine WO_call [.ro 5, .ro 2] Try.f19 rfl rfl rfl (by kernel_rfl) Try.func19 rfl (by kernel_rfl) (laws_eqNodeS_ok n x120 x113 b123 hc124) (And.intro (And.intro rfl rfl) (And.intro (And.intro rfl rfl) (trivial))) rfl ?_
      refine WO_step 2 [0, 1, 2, 3, 4, 5] [0, 1, 6, 7, 8, 9, 10, 11, 49] True ⟨[(0, .one (.e (.sl 0 0 x1.length))), (1, .one (.e (.sl 1 0 x2.length))), (6, .one (.e (.sl 2 0 x113.length))), (7, B b114), (8, .one (.e (.sl 3 0 x116.length))), (9, .one (.e (.sl 4 0 x118.length))), (10, .one (.e (.sl 5 0 x120.length))), (11, B b121), (49, B (!b123))], [.row .nod x1 false, .row .edt x2 false, .row .nod x113 true, .row .nod x116 true, .row .edt x118 true, .row .nod x120 true]⟩ (by kernel_rfl) trivial ?_
      refine WO_thru ⟨[(0, .one (.e (.sl 0 0 x1.length))), (1, .one (.e (.sl 1 0 x2.length))), (6, .one (.e (.sl 2 0 x113.length))), (7, B b114), (8, .one (.e (.sl 3 0 x116.length))), (9, .one (.e (.sl 4 0 x118.length))), (10, .one (.e (.sl 5 0 x120.length))), (11, B b121), (53, B ((!b123) || (!(b121 == b114))))], [.row .nod x1 false, .row .edt x2 false, .row .nod x113 true, .row .nod x116 true, .row .edt x118 true, .row .nod x120 true]⟩ ?_ ?_
      · refine WO_if 49 rfl (fun hb127 => ?_) (fun hb127 => ?_)
        · refine WO_step 4 [0, 1, 2, 3, 4, 5] [0, 1, 6, 7, 8, 9, 10, 11, 53] True ⟨[(0, .one (.e (.sl 0 0 x1.length))), (1, .one (.e (.sl 1 0 x2.length))), (6, .one (.e (.sl 2 0 x113.length))), (7, B b114), (8, .one (.e (.sl 3 0 x116.length))), (9, .one (.e (.sl 4 0 x118.length))), (10, .one (.e (.sl 5 0 x120.length))), (11, B b121), (53, B true)], [.row .nod x1 false, .row .edt x2 false, .row .nod x113 true, .row .nod x116 true, .row .edt x118 true, .row .nod x120 true]⟩ (by kernel_rfl) trivial ?_
          exact WO_nil rfl ⟨rfl, by first | rfl | (rw [hb127]; first | done | rfl)⟩
        · refine WO_step 4 [0, 1, 2, 3, 4, 5] [0, 1, 6, 7, 8, 9, 10, 11, 53] (True ∧ True) ⟨[(0, .one (.e (.sl 0 0 x1.length))), (1, .one (.e (.sl 1 0 x2.length))), (6, .one (.e (.sl 2 0 x113.length))), (7, B b114), (8, .one (.e (.sl 3 0 x116.length))), (9, .one (.e (.sl 4 0 x118.length))), (10, .one (.e (.sl 5 0 x120.length))), (11, B b121), (53, B (!(b121 == b114)))], [.row .nod x1 false, .row .edt x2 false, .row .nod x113 true, .row .nod x116 true, .row .edt x118 true, .row .nod x120 true]⟩ (by kernel_rfl) ⟨trivial, trivial⟩ ?_
          exact WO_nil rfl ⟨rfl, by first | rfl | (rw [hb127]; first | done | rfl)⟩
      · refine thenS_n ?_
        refine iteO_e h (fun hb129 h => W_true rfl hb129 ?_) (fun hb129 h => W_false rfl hb129 ?_)
        · refine W_seq ?_
          refine W_region ?_
          refine WO_step 1 [0, 1] [4] True ⟨[(4, B false)], [.row .nod x1 false, .row .edt x2 false]⟩ (by kernel_rfl) trivial ?_
          refine WO_nil rfl ?_
          refine thenS_n ?_
          refine W_ret ?_
          refine thenS_r ?_
          cases h
          exact ⟨[0, 1], True, by kernel_rfl, trivial⟩
        · refine W_sub [0, 1, 2, 3, 4, 5] [0, 1, 6, 7, 8, 9, 10, 11] (st' := ⟨[(0, .one (.e (.sl 0 0 x1.length))), (1, .one (.e (.sl 1 0 x2.length))), (6, .one (.e (.sl 2 0 x113.length))), (7, B b114), (8, .one (.e (.sl 3 0 x116.length))), (9, .one (.e (.sl 4 0 x118.length))), (10, .one (.e (.sl 5 0 x120.length))), (11, B b121)], [.row .nod x1 false, .row .edt x2 false, .row .nod x113 true, .row .nod x116 true, .row .edt x118 true, .row .nod x120 true]⟩) (by kernel_rfl) ?_
          refine W_skip ?_
          refine thenS_n ?_
          refine W_seq ?_
          refine W_seq ?_
          refine W_region ?_
          refine WO_step 2 [0, 1, 2, 3, 4, 5] [0, 1, 6, 7, 8, 9, 10, 11, 54, 55] True ⟨[(0, .one (.e (.sl 0 0 x1.length))), (1, .one (.e (.sl 1 0 x2.length))), (6, .one (.e (.sl 2 0 x113.length))), (7, B b114), (8, .one (.e (.sl 3 0 x116.length))), (9, .one (.e (.sl 4 0 x118.length))), (10, .one (.e (.sl 5 0 x120.length))), (11, B b121), (54, .one (.e (.sl 3 0 x116.length))), (55, .one (.e (.sl 0 0 x1.length)))], [.row .nod x1 false, .row .edt x2 false, .row .nod x113 true, .row .nod x116 true, .row .edt x118 true, .row .nod x120 true]⟩ (by kernel_rfl) trivial ?_
          refine bindO_e h (fun x130 hc131 h => ?_)
          refine WO_call [.ro 0] Try.f17 rfl rfl rfl (by kernel_rfl) Try.func17 rfl (by kernel_rfl) (laws_toNodeS_ok n x1 x130 hc131) (And.intro (And.intro rfl rfl) (trivial)) rfl ?_
          refine WO_sub [0, 1, 2, 3, 4, 5, 6] [0, 1, 6, 7, 8, 9, 10, 11, 54, 56] (st' := ⟨[(0, .one (.e (.sl 0 0 x1.length))), (1, .one (.e (.sl 1 0 x2.length))), (6, .one (.e (.sl 2 0 x113.length))), (7, B b114), (8, .one (.e (.sl 3 0 x116.length))), (9, .one (.e (.sl 4 0 x118.length))), (10, .one (.e (.sl 5 0 x120.length))), (11, B b121), (54, .one (.e (.sl 3 0 x116.length))), (56, .one (.e (.sl 6 0 x130.length)))], [.row .nod x1 false, .row .edt x2 false, .row .nod x113 true, .row .nod x116 true, .row .edt x118 true, .row .nod x120 true, .row .nod x130 true]⟩) (by kernel_rfl) ?_
          refine bindO_e h (fun b132 hc133 h => ?_)
          refine WO_call [.ro 3, .ro 6] Try.f19 rfl rfl rfl (by kernel_rfl) Try.func19 rfl (by kernel_rfl) (laws_eqNodeS_ok n x116 x130 b132 hc133) (And.intro (And.intro rfl rfl) (And.intro (And.intro rfl rfl) (trivial))) rfl ?_
          refine WO_step 1 [0, 1, 2, 3, 4, 5] [0, 1, 6, 7, 8, 9, 10, 11, 58] True ⟨[(0, .one (.e (.sl 0 0 x1.length))), (1, .one (.e (.sl 1 0 x2.length))), (6, .one (.e (.sl 2 0 x113.length))), (7, B b114), (8, .one (.e (.sl 3 0 x116.length))), (9, .one (.e (.sl 4 0 x118.length))), (10, .one (.e (.sl 5 0 x120.length))), (11, B b121), (58, B (!b132))], [.row .nod x1 false, .row .edt x2 false, .row .nod x113 true, .row .nod x116 true, .row .edt x118 true, .row .nod x120 true]⟩ (by kernel_rfl) trivial ?_
          refine WO_nil rfl ?_
          refine thenS_n ?_
          refine iteO_e h (fun hb135 h => W_true rfl hb135 ?_) (fun hb135 h => W_false rfl hb135 ?_)
          · refine W_seq ?_
            refine W_region ?_
            refine WO_step 1 [0, 1] [4] True ⟨[(4, B false)], [.row .nod x1 false, .row .edt x2 false]⟩ (by kernel_rfl) trivial ?_
            refine WO_nil rfl ?_
            refine thenS_n ?_
            refine W_ret ?_
            refine thenS_r ?_
            cases h
            exact ⟨[0, 1], True, by kernel_rfl, trivial⟩
          · refine W_sub [0, 1, 2, 3, 4, 5] [0, 1, 6, 7, 8, 9, 10, 11] (st' := ⟨[(0, .one (.e (.sl 0 0 x1.length))), (1, .one (.e (.sl 1 0 x2.length))), (6, .one (.e (.sl 2 0 x113.length))), (7, B b114), (8, .one (.e (.sl 3 0 x116.length))), (9, .one (.e (.sl 4 0 x118.length))), (10, .one (.e (.sl 5 0 x120.length))), (11, B b121)], [.row .nod x1 false, .row .edt x2 false, .row .nod x113 true, .row .nod x116 true, .row .edt x118 true, .row .nod x120 true]⟩) (by kernel_rfl) ?_
            refine W_skip ?_
            refine thenS_n ?_
            refine W_seq ?_
            refine W_seq ?_
            refine W_region ?_
            refine WO_step 2 [0, 1, 2, 3, 4, 5] [0, 1, 6, 7, 8, 9, 10, 11, 59, 60] True ⟨[(0, .one (.e (.sl 0 0 x1.length))), (1, .one (.e (.sl 1 0 x2.length))), (6, .one (.e (.sl 2 0 x113.length))), (7, B b114), (8, .one (.e (.sl 3 0 x116.length))), (9, .one (.e (.sl 4 0 x118.length))), (10, .one (.e (.sl 5 0 x120.length))), (11, B b121), (59, .one (.e (.sl 4 0 x118.length))), (60, .one (.e (.sl 1 0 x2.length)))], [.row .nod x1 false, .row .edt x2 false, .row .nod x113 true, .row .nod x116 true, .row .edt x118 true, .row .nod x120 true]⟩ (by kernel_rfl) trivial ?_
            refine bindO_e h (fun x136 hc137 h => ?_)
            refine WO_call [.ro 1] Try.f18 rfl rfl rfl (by kernel_rfl) Try.func18 rfl (by kernel_rfl) (laws_toEditS_ok n x2 x136 hc137) (And.intro (And.intro rfl rfl) (trivial)) rfl ?_
            refine WO_sub [0, 1, 2, 3, 4, 5, 6] [0, 1, 6, 7, 8, 9, 10, 11, 59, 61] (st' := ⟨[(0, .one (.e (.sl 0 0 x1.length))), (1, .one (.e (.sl 1 0 x2.length))), (6, .one (.e (.sl 2 0 x113.length))), (7, B b114), (8, .one (.e (.sl 3 0 x116.length))), (9, .one (.e (.sl 4 0 x118.length))), (10, .one (.e (.sl 5 0 x120.length))), (11, B b121), (59, .one (.e (.sl 4 0 x118.length))), (61, .one (.e (.sl 6 0 x136.length)))], [.row .nod x1 false, .row .edt x2 false, .row .nod x113 true, .row .nod x116 true, .row .edt x118 true, .row .nod x120 true, .row .edt x136 true]⟩) (by kernel_rfl) ?_
            refine bindO_e h (fun b138 hc139 h => ?_)
            refine WO_call [.ro 4, .ro 6] Try.f20 rfl rfl rfl (by kernel_rfl) Try.func20 rfl (by kernel_rfl) (laws_eqEditS_ok n x118 x136 b138 hc139) (And.intro (And.intro rfl rfl) (And.intro (And.intro rfl rfl) (trivial))) rfl ?_
            refine WO_step 1 [0, 1, 2, 3, 4, 5] [0, 1, 6, 7, 8, 9, 10, 11, 63] True ⟨[(0, .one (.e (.sl 0 0 x1.length))), (1, .one (.e (.sl 1 0 x2.length))), (6, .one (.e (.sl 2 0 x113.length))), (7, B b114), (8, .one (.e (.sl 3 0 x116.length))), (9, .one (.e (.sl 4 0 x118.length))), (10, .one (.e (.sl 5 0 x120.length))), (11, B b121), (63, B (!b138))], [.row .nod x1 false, .row .edt x2 false, .row .nod x113 true, .row .nod x116 true, .row .edt x118 true, .row .nod x120 true]⟩ (by kernel_rfl) trivial ?_
            refine WO_nil rfl ?_
            refine thenS_n ?_
            refine iteO_e h (fun hb141 h => W_true rfl hb141 ?_) (fun hb141 h => W_false rfl hb141 ?_)
            · refine W_seq ?_
              refine W_region ?_
              refine WO_step 1 [0, 1] [4] True ⟨[(4, B false)], [.row .nod x1 false, .row .edt x2 false]⟩ (by kernel_rfl) trivial ?_
              refine WO_nil rfl ?_
              refine thenS_n ?_
              refine W_ret ?_
              refine thenS_r ?_
              cases h
              exact ⟨[0, 1], True, by kernel_rfl, trivial⟩
            · refine W_sub [0, 1, 2, 3, 4, 5] [0, 1, 6, 7, 8, 9, 10, 11] (st' := ⟨[(0, .one (.e (.sl 0 0 x1.length))), (1, .one (.e (.sl 1 0 x2.length))), (6, .one (.e (.sl 2 0 x113.length))), (7, B b114), (8, .one (.e (.sl 3 0 x116.length))), (9, .one (.e (.sl 4 0 x118.length))), (10, .one (.e (.sl 5 0 x120.length))), (11, B b121)], [.row .nod x1 false, .row .edt x2 false, .row .nod x113 true, .row .nod x116 true, .row .edt x118 true, .row .nod x120 true]⟩) (by kernel_rfl) ?_
              refine W_skip ?_
              refine thenS_n ?_
              refine W_seq ?_
              refine W_region ?_
              refine WO_step 1 [0, 1, 2, 3, 4, 5] [0, 1, 6, 7, 8, 9, 10, 11, 12] True ⟨[(0, .one (.e (.sl 0 0 x1.length))), (1, .one (.e (.sl 1 0 x2.length))), (6, .one (.e (.sl 2 0 x113.length))), (7, B b114), (8, .one (.e (.sl 3 0 x116.length))), (9, .one (.e (.sl 4 0 x118.length))), (10, .one (.e (.sl 5 0 x120.length))), (11, B b121), (12, I 1)], [.row .nod x1 false, .row .edt x2 false, .row .nod x113 true, .row .nod x116 true, .row .edt x118 true, .row .nod x120 true]⟩ (by kernel_rfl) trivial ?_
              refine WO_nil rfl ?_
              refine thenS_n ?_
              refine W_seq ?_
              refine W_region ?_
              refine WO_step 2 [0, 1, 2, 4, 5, 3] [0, 1, 6, 7, 9, 10, 11, 64, 65] True ⟨[(0, .one (.e (.sl 0 0 x1.length))), (1, .one (.e (.sl 1 0 x2.length))), (6, .one (.e (.sl 2 0 x113.length))), (7, B b114), (9, .one (.e (.sl 3 0 x118.length))), (10, .one (.e (.sl 4 0 x120.length))), (11, B b121), (64, .one (.e (.sl 5 0 x116.length))), (65, I 1)], [.row .nod x1 false, .row .edt x2 false, .row .nod x113 true, .row .edt x118 true, .row .nod x120 true, .row .nod x116 true]⟩ (by kernel_rfl) trivial ?_
              refine bindO_e h (fun v195 hc144 h => ?_)
              obtain ⟨x142, i143⟩ := v195
              refine guardO_e h (fun hl145 h => ?_)
              refine WO_call [.own 5] Try.f21 rfl rfl rfl (by kernel_rfl) Try.func21 rfl (by kernel_rfl) (laws_markNodeS_ok n x116 x116.length 1 x142 i143 hc144) (And.intro (And.intro rfl (And.intro rfl hl145)) (trivial)) rfl ?_
              refine WO_sub [0, 1, 2, 3, 4, 5] [0, 1, 6, 7, 9, 10, 11, 64, 65, 66] (st' := ⟨[(0, .one (.e (.sl 0 0 x1.length))), (1, .one (.e (.sl 1 0 x2.length))), (6, .one (.e (.sl 2 0 x113.length))), (7, B b114), (9, .one (.e (.sl 3 0 x118.length))), (10, .one (.e (.sl 4 0 x120.length))), (11, B b121), (64, .one (.e (.sl 5 0 x116.length))), (65, I 1), (66, I i143)], [.row .nod x1 false, .row .edt x2 false, .row .nod x113 true, .row .edt x118 true, .row .nod x120 true, .row .nod x142 true]⟩) (by kernel_rfl) ?_
              refine WO_eq (st' := ⟨[(0, .one (.e (.sl 0 0 x1.length))), (1, .one (.e (.sl 1 0 x2.length))), (6, .one (.e (.sl 2 0 x113.length))), (7, B b114), (9, .one (.e (.sl 3 0 x118.length))), (10, .one (.e (.sl 4 0 x120.length))), (11, B b121), (64, .one (.e (.sl 5 0 x142.length))), (65, I 1), (66, I i143)], [.row .nod x1 false, .row .edt x2 false, .row .nod x113 true, .row .edt x118 true, .row .nod x120 true, .row .nod x142 true]⟩) (by simp only [hl145]) ?_
              refine WO_step 1 [0, 1, 2, 3, 4] [0, 1, 6, 7, 9, 10, 11, 12] True ⟨[(0, .one (.e (.sl 0 0 x1.length))), (1, .one (.e (.sl 1 0 x2.length))), (6, .one (.e (.sl 2 0 x113.length))), (7, B b114), (9, .one (.e (.sl 3 0 x118.length))), (10, .one (.e (.sl 4 0 x120.length))), (11, B b121), (12, I i143)], [.row .nod x1 false, .row .edt x2 false, .row .nod x113 true, .row .edt x118 true, .row .nod x120 true]⟩ (by kernel_rfl) trivial ?_
              refine WO_nil rfl ?_
              refine thenS_n ?_
              refine W_seq ?_
              refine W_region ?_
              refine WO_step 2 [0, 1, 2, 4, 3] [0, 1, 6, 7, 10, 11, 67, 68] True ⟨[(0, .one (.e (.sl 0 0 x1.length))), (1, .one (.e (.sl 1 0 x2.length))), (6, .one (.e (.sl 2 0 x113.length))), (7, B b114), (10, .one (.e (.sl 3 0 x120.length))), (11, B b121), (67, .one (.e (.sl 4 0 x118.length))), (68, I i143)], [.row .nod x1 false, .row .edt x2 false, .row .nod x113 true, .row .nod x120 true, .row .edt x118 true]⟩ (by kernel_rfl) trivial ?_
              refine bindO_e h (fun v194 hc148 h => ?_)
              obtain ⟨x146, i147⟩ := v194
              refine guardO_e h (fun hl149 h => ?_)
              refine WO_call [.own 4] Try.f22 rfl rfl rfl (by kernel_rfl) Try.func22 rfl (by kernel_rfl) (laws_markEditS_ok n x118 x118.length i143 x146 i147 hc148) (And.intro (And.intro rfl (And.intro rfl hl149)) (trivial)) rfl ?_
              refine WO_sub [0, 1, 2, 3, 4] [0, 1, 6, 7, 10, 11, 67, 68, 69] (st' := ⟨[(0, .one (.e (.sl 0 0 x1.length))), (1, .one (.e (.sl 1 0 x2.length))), (6, .one (.e (.sl 2 0 x113.length))), (7, B b114), (10, .one (.e (.sl 3 0 x120.length))), (11, B b121), (67, .one (.e (.sl 4 0 x118.length))), (68, I i143), (69, I i147)], [.row .nod x1 false, .row .edt x2 false, .row .nod x113 true, .row .nod x120 true, .row .edt x146 true]⟩) (by kernel_rfl) ?_
              refine WO_eq (st' := ⟨[(0, .one (.e (.sl 0 0 x1.length))), (1, .one (.e (.sl 1 0 x2.length))), (6, .one (.e (.sl 2 0 x113.length))), (7, B b114), (10, .one (.e (.sl 3 0 x120.length))), (11, B b121), (67, .one (.e (.sl 4 0 x146.length))), (68, I i143), (69, I i147)], [.row .nod x1 false, .row .edt x2 false, .row .nod x113 true, .row .nod x120 true, .row .edt x146 true]⟩) (by simp only [hl149]) ?_
              refine WO_step 1 [0, 1, 2, 3] [0, 1, 6, 7, 10, 11, 12] True ⟨[(0, .one (.e (.sl 0 0 x1.length))), (1, .one (.e (.sl 1 0 x2.length))), (6, .one (.e (.sl 2 0 x113.length))), (7, B b114), (10, .one (.e (.sl 3 0 x120.length))), (11, B b121), (12, I i147)], [.row .nod x1 false, .row .edt x2 false, .row .nod x113 true, .row .nod x120 true]⟩ (by kernel_rfl) trivial ?_
              refine WO_nil rfl ?_
              refine thenS_n ?_
              refine W_seq ?_
              refine W_seq ?_
              refine W_region ?_
              refine WO_step 3 [0, 1, 2, 3] [0, 1, 6, 7, 10, 11, 72] (True ∧ True) ⟨[(0, .one (.e (.sl 0 0 x1.length))), (1, .one (.e (.sl 1 0 x2.length))), (6, .one (.e (.sl 2 0 x113.length))), (7, B b114), (10, .one (.e (.sl 3 0 x120.length))), (11, B b121), (72, B (decide (i147 < 0)))], [.row .nod x1 false, .row .edt x2 false, .row .nod x113 true, .row .nod x120 true]⟩ (by kernel_rfl) ⟨trivial, trivial⟩ ?_
              refine bindO_e h (fun b154 hv155 h => ?_)
              refine WO_thru ⟨[(0, .one (.e (.sl 0 0 x1.length))), (1, .one (.e (.sl 1 0 x2.length))), (6, .one (.e (.sl 2 0 x113.length))), (7, B b114), (10, .one (.e (.sl 3 0 x120.length))), (82, B b154)], [.row .nod x1 false, .row .edt x2 false, .row .nod x113 true, .row .nod x120 true]⟩ ?_ ?_
              · refine iteO_e hv155 (fun hb156 hv155 => WO_known 72 true rfl hb156 ?_) (fun hb156 hv155 => WO_known 72 false rfl hb156 ?_)
                · refine WO_step 10 [0, 1, 2, 3] [0, 1, 6, 7, 10, 82] True ⟨[(0, .one (.e (.sl 0 0 x1.length))), (1, .one (.e (.sl 1 0 x2.length))), (6, .one (.e (.sl 2 0 x113.length))), (7, B b114), (10, .one (.e (.sl 3 0 x120.length))), (82, B true)], [.row .nod x1 false, .row .edt x2 false, .row .nod x113 true, .row .nod x120 true]⟩ (by kernel_rfl) trivial ?_
                  cases hv155
                  exact WO_nil rfl ⟨rfl, rfl⟩
                · refine WO_step 2 [0, 1, 2, 3] [0, 1, 6, 7, 10, 11, 72, 73, 74] True ⟨[(0, .one (.e (.sl 0 0 x1.length))), (1, .one (.e (.sl 1 0 x2.length))), (6, .one (.e (.sl 2 0 x113.length))), (7, B b114), (10, .one (.e (.sl 3 0 x120.length))), (11, B b121), (72, B false), (73, .one (.e (.sl 3 0 x120.length))), (74, .one (.e (.sl 2 0 x113.length)))], [.row .nod x1 false, .row .edt x2 false, .row .nod x113 true, .row .nod x120 true]⟩ (by kernel_rfl) trivial ?_
                  refine bindO_e hv155 (fun b157 hc158 hv155 => ?_)
                  refine WO_call [.ro 3, .ro 2] Try.f19 rfl rfl rfl (by kernel_rfl) Try.func19 rfl (by kernel_rfl) (laws_eqNodeS_ok n x120 x113 b157 hc158) (And.intro (And.intro rfl rfl) (And.intro (And.intro rfl rfl) (trivial))) rfl ?_
                  refine WO_step 3 [0, 1, 2, 3] [0, 1, 6, 7, 10, 11, 78] True ⟨[(0, .one (.e (.sl 0 0 x1.length))), (1, .one (.e (.sl 1 0 x2.length))), (6, .one (.e (.sl 2 0 x113.length))), (7, B b114), (10, .one (.e (.sl 3 0 x120.length))), (11, B b121), (78, B (!b157))], [.row .nod x1 false, .row .edt x2 false, .row .nod x113 true, .row .nod x120 true]⟩ (by kernel_rfl) trivial ?_
                  refine iteO_e hv155 (fun hb159 hv155 => WO_known 78 true rfl hb159 ?_) (fun hb159 hv155 => WO_known 78 false rfl hb159 ?_)
                  · refine WO_step 4 [0, 1, 2, 3] [0, 1, 6, 7, 10, 82] True ⟨[(0, .one (.e (.sl 0 0 x1.length))), (1, .one (.e (.sl 1 0 x2.length))), (6, .one (.e (.sl 2 0 x113.length))), (7, B b114), (10, .one (.e (.sl 3 0 x120.length))), (82, B true)], [.row .nod x1 false, .row .edt x2 false, .row .nod x113 true, .row .nod x120 true]⟩ (by kernel_rfl) trivial ?_
                    cases hv155
                    exact WO_nil rfl ⟨rfl, rfl⟩
                  · refine WO_step 4 [0, 1, 2, 3] [0, 1, 6, 7, 10, 82] (True ∧ True) ⟨[(0, .one (.e (.sl 0 0 x1.length))), (1, .one (.e (.sl 1 0 x2.length))), (6, .one (.e (.sl 2 0 x113.length))), (7, B b114), (10, .one (.e (.sl 3 0 x120.length))), (82, B (!(b121 == b114)))], [.row .nod x1 false, .row .edt x2 false, .row .nod x113 true, .row .nod x120 true]⟩ (by kernel_rfl) ⟨trivial, trivial⟩ ?_
                    cases hv155
                    exact WO_nil rfl ⟨rfl, rfl⟩
              · refine thenS_n ?_
                refine iteO_e h (fun hb161 h => W_true rfl hb161 ?_) (fun hb161 h => W_false rfl hb161 ?_)
                · refine W_seq ?_
                  refine W_region ?_
                  refine WO_step 1 [0, 1] [4] True ⟨[(4, B false)], [.row .nod x1 false, .row .edt x2 false]⟩ (by kernel_rfl) trivial ?_
                  refine WO_nil rfl ?_
                  refine thenS_n ?_
                  refine W_ret ?_
                  refine thenS_r ?_
                  cases h
                  exact ⟨[0, 1], True, by kernel_rfl, trivial⟩
                · refine W_sub [0, 1, 2, 3] [0, 1, 6, 7, 10] (st' := ⟨[(0, .one (.e (.sl 0 0 x1.length))), (1, .one (.e (.sl 1 0 x2.length))), (6, .one (.e (.sl 2 0 x113.length))), (7, B b114), (10, .one (.e (.sl 3 0 x120.length)))], [.row .nod x1 false, .row .edt x2 false, .row .nod x113 true, .row .nod x120 true]⟩) (by kernel_rfl) ?_
                  refine W_skip ?_
                  refine thenS_n ?_
                  refine W_seq ?_
                  refine W_region ?_
                  refine WO_step 1 [0, 1, 2, 3] [0, 1, 6, 7, 10, 13] True ⟨[(0, .one (.e (.sl 0 0 x1.length))), (1, .one (.e (.sl 1 0 x2.length))), (6, .one (.e (.sl 2 0 x113.length))), (7, B b114), (10, .one (.e (.sl 3 0 x120.length))), (13, I 1)], [.row .nod x1 false, .row .edt x2 false, .row .nod x113 true, .row .nod x120 true]⟩ (by kernel_rfl) trivial ?_
                  refine WO_nil rfl ?_
                  refine thenS_n ?_
                  refine W_seq ?_
                  refine W_region ?_
                  refine WO_step 2 [0, 1, 2, 3] [0, 1, 6, 7, 10, 83, 84] True ⟨[(0, .one (.e (.sl 0 0 x1.length))), (1, .one (.e (.sl 1 0 x2.length))), (6, .one (.e (.sl 2 0 x113.length))), (7, B b114), (10, .one (.e (.sl 3 0 x120.length))), (83, .one (.e (.sl 3 0 x120.length))), (84, I 1)], [.row .nod x1 false, .row .edt x2 false, .row .nod x113 true, .row .nod x120 true]⟩ (by kernel_rfl) trivial ?_
                  refine bindO_e h (fun v193 hc164 h => ?_)
                  obtain ⟨x162, i163⟩ := v193
                  refine guardO_e h (fun hl165 h => ?_)
                  refine WO_call [.own 3] Try.f21 rfl rfl rfl (by kernel_rfl) Try.func21 rfl (by kernel_rfl) (laws_markNodeS_ok n x120 x120.length 1 x162 i163 hc164) (And.intro (And.intro rfl (And.intro rfl hl165)) (trivial)) rfl ?_
                  refine WO_sub [0, 1, 2, 3] [0, 1, 6, 7, 10, 83, 84, 85] (st' := ⟨[(0, .one (.e (.sl 0 0 x1.length))), (1, .one (.e (.sl 1 0 x2.length))), (6, .one (.e (.sl 2 0 x113.length))), (7, B b114), (10, .one (.e (.sl 3 0 x120.length))), (83, .one (.e (.sl 3 0 x120.length))), (84, I 1), (85, I i163)], [.row .nod x1 false, .row .edt x2 false, .row .nod x113 true, .row .nod x162 true]⟩) (by kernel_rfl) ?_
                  refine WO_eq (st' := ⟨[(0, .one (.e (.sl 0 0 x1.length))), (1, .one (.e (.sl 1 0 x2.length))), (6, .one (.e (.sl 2 0 x113.length))), (7, B b114), (10, .one (.e (.sl 3 0 x162.length))), (83, .one (.e (.sl 3 0 x162.length))), (84, I 1), (85, I i163)], [.row .nod x1 false, .row .edt x2 false, .row .nod x113 true, .row .nod x162 true]⟩) (by simp only [hl165]) ?_
                  refine WO_step 1 [0, 1, 2, 3] [0, 1, 6, 7, 10, 13] True ⟨[(0, .one (.e (.sl 0 0 x1.length))), (1, .one (.e (.sl 1 0 x2.length))), (6, .one (.e (.sl 2 0 x113.length))), (7, B b114), (10, .one (.e (.sl 3 0 x162.length))), (13, I i163)], [.row .nod x1 false, .row .edt x2 false, .row .nod x113 true, .row .nod x162 true]⟩ (by kernel_rfl) trivial ?_
                  refine WO_nil rfl ?_
                  refine thenS_n ?_
                  refine W_seq ?_
                  refine W_region ?_
                  refine WO_step 1 [0, 1, 2, 3] [0, 1, 6, 7, 10, 13, 14] True ⟨[(0, .one (.e (.sl 0 0 x1.length))), (1, .one (.e (.sl 1 0 x2.length))), (6, .one (.e (.sl 2 0 x113.length))), (7, B b114), (10, .one (.e (.sl 3 0 x162.length))), (13, I i163), (14, I 1)], [.row .nod x1 false, .row .edt x2 false, .row .nod x113 true, .row .nod x162 true]⟩ (by kernel_rfl) trivial ?_
                  refine WO_nil rfl ?_
                  refine thenS_n ?_
                  refine W_seq ?_
                  refine W_region ?_
                  refine WO_step 2 [0, 1, 2, 3] [0, 1, 6, 7, 10, 13, 86, 87] True ⟨[(0, .one (.e (.sl 0 0 x1.length))), (1, .one (.e (.sl 1 0 x2.length))), (6, .one (.e (.sl 2 0 x113.length))), (7, B b114), (10, .one (.e (.sl 3 0 x162.length))), (13, I i163), (86, .one (.e (.sl 3 0 x162.length))), (87, I 1)], [.row .nod x1 false, .row .edt x2 false, .row .nod x113 true, .row .nod x162 true]⟩ (by kernel_rfl) trivial ?_
                  refine bindO_e h (fun i166 hc167 h => ?_)
                  refine WO_call [.ro 3] Try.f23 rfl rfl rfl (by kernel_rfl) Try.func23 rfl (by kernel_rfl) (laws_heldNodeS_ok n x162 1 i166 hc167) (And.intro (And.intro rfl rfl) (trivial)) rfl ?_
                  refine WO_step 1 [0, 1, 2, 3] [0, 1, 6, 7, 10, 13, 14] True ⟨[(0, .one (.e (.sl 0 0 x1.length))), (1, .one (.e (.sl 1 0 x2.length))), (6, .one (.e (.sl 2 0 x113.length))), (7, B b114), (10, .one (.e (.sl 3 0 x162.length))), (13, I i163), (14, I i166)], [.row .nod x1 false, .row .edt x2 false, .row .nod x113 true, .row .nod x162 true]⟩ (by kernel_rfl) trivial ?_
                  refine WO_nil rfl ?_
                  refine thenS_n ?_
                  refine W_seq ?_
                  refine W_seq ?_
                  refine W_region ?_
                  refine WO_step 2 [0, 1, 2, 3] [0, 1, 6, 7, 10, 13, 14, 90] (True ∧ True) ⟨[(0, .one (.e (.sl 0 0 x1.length))), (1, .one (.e (.sl 1 0 x2.length))), (6, .one (.e (.sl 2 0 x113.length))), (7, B b114), (10, .one (.e (.sl 3 0 x162.length))), (13, I i163), (14, I i166), (90, B (decide (i166 < 0)))], [.row .nod x1 false, .row .edt x2 false, .row .nod x113 true, .row .nod x162 true]⟩ (by kernel_rfl) ⟨trivial, trivial⟩ ?_
                  refine WO_nil rfl ?_
                  refine thenS_n ?_
                  refine iteO_e h (fun hb169 h => W_true rfl hb169 ?_) (fun hb169 h => W_false rfl hb169 ?_)
                  · refine W_seq ?_
                    refine W_region ?_
                    refine WO_step 1 [0, 1] [4] True ⟨[(4, B false)], [.row .nod x1 false, .row .edt x2 false]⟩ (by kernel_rfl) trivial ?_
                    refine WO_nil rfl ?_
                    refine thenS_n ?_
                    refine W_ret ?_
                    refine thenS_r ?_
                    cases h
                    exact ⟨[0, 1], True, by kernel_rfl, trivial⟩
                  · refine W_sub [0, 1, 2, 3] [0, 1, 6, 7, 10, 13, 14] (st' := ⟨[(0, .one (.e (.sl 0 0 x1.length))), (1, .one (.e (.sl 1 0 x2.length))), (6, .one (.e (.sl 2 0 x113.length))), (7, B b114), (10, .one (.e (.sl 3 0 x162.length))), (13, I i163), (14, I i166)], [.row .nod x1 false, .row .edt x2 false, .row .nod x113 true, .row .nod x162 true]⟩) (by kernel_rfl) ?_
                    refine W_skip ?_
                    refine thenS_n ?_
                    refine W_seq ?_
                    refine W_seq ?_
                    refine W_region ?_
                    refine WO_step 3 [0, 1, 2, 3] [0, 1, 6, 7, 10, 13, 93] (True ∧ True) ⟨[(0, .one (.e (.sl 0 0 x1.length))), (1, .one (.e (.sl 1 0 x2.length))), (6, .one (.e (.sl 2 0 x113.length))), (7, B b114), (10, .one (.e (.sl 3 0 x162.length))), (13, I i163), (93, B (!decide (i166 = i163)))], [.row .nod x1 false, .row .edt x2 false, .row .nod x113 true, .row .nod x162 true]⟩ (by kernel_rfl) ⟨trivial, trivial⟩ ?_
                    refine WO_nil rfl ?_
                    refine thenS_n ?_
                    refine iteO_e h (fun hb171 h => W_true rfl hb171 ?_) (fun hb171 h => W_false rfl hb171 ?_)
                    · refine W_seq ?_
                      refine W_region ?_
                      refine WO_step 1 [0, 1] [4] True ⟨[(4, B false)], [.row .nod x1 false, .row .edt x2 false]⟩ (by kernel_rfl) trivial ?_
                      refine WO_nil rfl ?_
                      refine thenS_n ?_
                      refine W_ret ?_
                      refine thenS_r ?_
                      cases h
                      exact ⟨[0, 1], True, by kernel_rfl, trivial⟩
                    · refine W_sub [0, 1, 2, 3] [0, 1, 6, 7, 10, 13] (st' := ⟨[(0, .one (.e (.sl 0 0 x1.length))), (1, .one (.e (.sl 1 0 x2.length))), (6, .one (.e (.sl 2 0 x113.length))), (7, B b114), (10, .one (.e (.sl 3 0 x162.length))), (13, I i163)], [.row .nod x1 false, .row .edt x2 false, .row .nod x113 true, .row .nod x162 true]⟩) (by kernel_rfl) ?_
                      refine W_skip ?_
                      refine thenS_n ?_
                      refine W_seq ?_
                      refine W_region ?_
                      refine WO_step 1 [0, 1, 2, 3] [1, 6, 7, 10, 13, 95] True ⟨[(1, .one (.e (.sl 1 0 x2.length))), (6, .one (.e (.sl 2 0 x113.length))), (7, B b114), (10, .one (.e (.sl 3 0 x162.length))), (13, I i163), (95, .one (.e (.sl 0 0 x1.length)))], [.row .nod x1 false, .row .edt x2 false, .row .nod x113 true, .row .nod x162 true]⟩ (by kernel_rfl) trivial ?_
                      refine bindO_e h (fun x172 hc173 h => ?_)
                      refine WO_call [.ro 0] Try.f17 rfl rfl rfl (by kernel_rfl) Try.func17 rfl (by kernel_rfl) (laws_toNodeS_ok n x1 x172 hc173) (And.intro (And.intro rfl rfl) (trivial)) rfl ?_
                      refine WO_step 1 [0, 1, 2, 3, 4] [6, 7, 10, 13, 96, 97] True ⟨[(6, .one (.e (.sl 2 0 x113.length))), (7, B b114), (10, .one (.e (.sl 3 0 x162.length))), (13, I i163), (96, .one (.e (.sl 4 0 x172.length))), (97, .one (.e (.sl 1 0 x2.length)))], [.row .nod x1 false, .row .edt x2 false, .row .nod x113 true, .row .nod x162 true, .row .nod x172 true]⟩ (by kernel_rfl) trivial ?_
                      refine bindO_e h (fun x174 hc175 h => ?_)
                      refine WO_call [.ro 1] Try.f18 rfl rfl rfl (by kernel_rfl) Try.func18 rfl (by kernel_rfl) (laws_toEditS_ok n x2 x174 hc175) (And.intro (And.intro rfl rfl) (trivial)) rfl ?_
                      refine WO_sub [0, 1, 2, 3, 4, 5] [6, 7, 10, 13, 96, 98] (st' := ⟨[(6, .one (.e (.sl 2 0 x113.length))), (7, B b114), (10, .one (.e (.sl 3 0 x162.length))), (13, I i163), (96, .one (.e (.sl 4 0 x172.length))), (98, .one (.e (.sl 5 0 x174.length)))], [.row .nod x1 false, .row .edt x2 false, .row .nod x113 true, .row .nod x162 true, .row .nod x172 true, .row .edt x174 true]⟩) (by kernel_rfl) ?_
                      refine bindO_e h (fun v192 hc178 h => ?_)
                      obtain ⟨x176, b177⟩ := v192
                      refine WO_call [.ro 4, .ro 5] Try.f10 rfl rfl rfl (by kernel_rfl) Try.func10 rfl (by kernel_rfl) (impl_ApplyEdits_ok n x172 x174 x176 b177 hc178) (And.intro (And.intro rfl rfl) (And.intro (And.intro rfl rfl) (trivial))) rfl ?_
                      refine WO_step 5 [0, 1, 2, 3, 6] [6, 7, 10, 13, 15, 16] True ⟨[(6, .one (.e (.sl 2 0 x113.length))), (7, B b114), (10, .one (.e (.sl 3 0 x162.length))), (13, I i163), (15, .one (.e (.sl 4 0 x176.length))), (16, B b177)], [.row .nod x1 false, .row .edt x2 false, .row .nod x113 true, .row .nod x162 true, .row .nod x176 true]⟩ (by kernel_rfl) trivial ?_
                      refine WO_nil rfl ?_
                      refine thenS_n ?_
                      refine W_seq ?_
                      refine W_seq ?_
                      refine W_region ?_
                      refine WO_step 2 [0, 1, 3, 4, 2] [7, 10, 13, 16, 102, 103] True ⟨[(7, B b114), (10, .one (.e (.sl 2 0 x162.length))), (13, I i163), (16, B b177), (102, .one (.e (.sl 3 0 x176.length))), (103, .one (.e (.sl 4 0 x113.length)))], [.row .nod x1 false, .row .edt x2 false, .row .nod x162 true, .row .nod x176 true, .row .nod x113 true]⟩ (by kernel_rfl) trivial ?_
                      refine bindO_e h (fun b179 hc180 h => ?_)
                      refine WO_call [.ro 3, .ro 4] Try.f19 rfl rfl rfl (by kernel_rfl) Try.func19 rfl (by kernel_rfl) (laws_eqNodeS_ok n x176 x113 b179 hc180) (And.intro (And.intro rfl rfl) (And.intro (And.intro rfl rfl) (trivial))) rfl ?_
                      refine WO_step 2 [0, 1, 2] [7, 10, 13, 16, 106] True ⟨[(7, B b114), (10, .one (.e (.sl 2 0 x162.length))), (13, I i163), (16, B b177), (106, B (!b179))], [.row .nod x1 false, .row .edt x2 false, .row .nod x162 true]⟩ (by kernel_rfl) trivial ?_
                      refine WO_thru ⟨[(10, .one (.e (.sl 2 0 x162.length))), (13, I i163), (110, B ((!b179) || (!(b177 == b114))))], [.row .nod x1 false, .row .edt x2 false, .row .nod x162 true]⟩ ?_ ?_
                      · refine WO_if 106 rfl (fun hb183 => ?_) (fun hb183 => ?_)
                        · refine WO_step 4 [0, 1, 2] [10, 13, 110] True ⟨[(10, .one (.e (.sl 2 0 x162.length))), (13, I i163), (110, B true)], [.row .nod x1 false, .row .edt x2 false, .row .nod x162 true]⟩ (by kernel_rfl) trivial ?_
                          exact WO_nil rfl ⟨rfl, by first | rfl | (rw [hb183]; first | done | rfl)⟩
                        · refine WO_step 4 [0, 1, 2] [10, 13, 110] (True ∧ True) ⟨[(10, .one (.e (.sl 2 0 x162.length))), (13, I i163), (110, B (!(b177 == b114)))], [.row .nod x1 false, .row .edt x2 false, .row .nod x162 true]⟩ (by kernel_rfl) ⟨trivial, trivial⟩ ?_
                          exact WO_nil rfl ⟨rfl, by first | rfl | (rw [hb183]; first | done | rfl)⟩
                      · refine thenS_n ?_
                        refine iteO_e h (fun hb185 h => W_true rfl hb185 ?_) (fun hb185 h => W_false rfl hb185 ?_)
                        · refine W_seq ?_
                          refine W_region ?_
                          refine WO_step 1 [0, 1] [4] True ⟨[(4, B false)], [.row .nod x1 false, .row .edt x2 false]⟩ (by kernel_rfl) trivial ?_
                          refine WO_nil rfl ?_
                          refine thenS_n ?_
                          refine W_ret ?_
                          refine thenS_r ?_
                          cases h
                          exact ⟨[0, 1], True, by kernel_rfl, trivial⟩
                        · refine W_sub [0, 1, 2] [10, 13] (st' := ⟨[(10, .one (.e (.sl 2 0 x162.length))), (13, I i163)], [.row .nod x1 false, .row .edt x2 false, .row .nod x162 true]⟩) (by kernel_rfl) ?_
                          refine W_skip ?_
                          refine thenS_n ?_
                          refine W_seq ?_
                          refine W_region ?_
                          refine WO_step 1 [0, 1, 2] [10, 13, 14] True ⟨[(10, .one (.e (.sl 2 0 x162.length))), (13, I i163), (14, I 1)], [.row .nod x1 false, .row .edt x2 false, .row .nod x162 true]⟩ (by kernel_rfl) trivial ?_
                          refine WO_nil rfl ?_
                          refine thenS_n ?_
                          refine W_seq ?_
                          refine W_region ?_
                          refine WO_step 2 [0, 1, 2] [13, 111, 112] True ⟨[(13, I i163), (111, .one (.e (.sl 2 0 x162.length))), (112, I 1)], [.row .nod x1 false, .row .edt x2 false, .row .nod x162 true]⟩ (by kernel_rfl) trivial ?_
                          refine bindO_e h (fun i186 hc187 h => ?_)
                          refine WO_call [.ro 2] Try.f23 rfl rfl rfl (by kernel_rfl) Try.func23 rfl (by kernel_rfl) (laws_heldNodeS_ok n x162 1 i186 hc187) (And.intro (And.intro rfl rfl) (trivial)) rfl ?_
                          refine WO_step 1 [0, 1] [13, 14] True ⟨[(13, I i163), (14, I i186)], [.row .nod x1 false, .row .edt x2 false]⟩ (by kernel_rfl) trivial ?_
                          refine WO_nil rfl ?_
                          refine thenS_n ?_
                          refine W_seq ?_
                          refine W_seq ?_
                          refine W_region ?_
                          refine WO_step 2 [0, 1] [13, 14, 115] (True ∧ True) ⟨[(13, I i163), (14, I i186), (115, B (decide (i186 < 0)))], [.row .nod x1 false, .row .edt x2 false]⟩ (by kernel_rfl) ⟨trivial, trivial⟩ ?_
                          refine WO_nil rfl ?_
                          refine thenS_n ?_
                          refine iteO_e h (fun hb189 h => W_true rfl hb189 ?_) (fun hb189 h => W_false rfl hb189 ?_)
                          · refine W_seq ?_
                            refine W_region ?_
                            refine WO_step 1 [0, 1] [4] True ⟨[(4, B false)], [.row .nod x1 false, .row .edt x2 false]⟩ (by kernel_rfl) trivial ?_
                            refine WO_nil rfl ?_
                            refine thenS_n ?_
                            refine W_ret ?_
                            refine thenS_r ?_
                            cases h
                            exact ⟨[0, 1], True, by kernel_rfl, trivial⟩
                          · refine W_sub [0, 1] [13, 14] (st' := ⟨[(13, I i163), (14, I i186)], [.row .nod x1 false, .row .edt x2 false]⟩) (by kernel_rfl) ?_
                            refine W_skip ?_
                            refine thenS_n ?_
                            refine W_seq ?_
                            refine W_seq ?_
                            refine W_region ?_
                            refine WO_step 3 [0, 1] [118] (True ∧ True) ⟨[(118, B (!decide (i186 = i163)))], [.row .nod x1 false, .row .edt x2 false]⟩ (by kernel_rfl) ⟨trivial, trivial⟩ ?_
                            refine WO_nil rfl ?_
                            refine thenS_n ?_
                            refine iteO_e h (fun hb191 h => W_true rfl hb191 ?_) (fun hb191 h => W_false rfl hb191 ?_)
                            · refine W_seq ?_
                              refine W_region ?_
                              refine WO_step 1 [0, 1] [4] True ⟨[(4, B false)], [.row .nod x1 false, .row .edt x2 false]⟩ (by kernel_rfl) trivial ?_
                              refine WO_nil rfl ?_
                              refine thenS_n ?_
                              refine W_ret ?_
                              refine thenS_r ?_
                              cases h
                              exact ⟨[0, 1], True, by kernel_rfl, trivial⟩
                            · refine W_sub [0, 1] [] (st' := ⟨[], [.row .nod x1 false, .row .edt x2 false]⟩) (by kernel_rfl) ?_
                              refine W_skip ?_
                              refine thenS_n ?_
                              refine W_seq ?_
                              refine W_region ?_
                              refine WO_step 1 [0, 1] [4] True ⟨[(4, B true)], [.row .nod x1 false, .row .edt x2 false]⟩ (by kernel_rfl) trivial ?_
                              refine WO_nil rfl ?_
                              refine thenS_n ?_
                              refine W_ret ?_
                              cases h
                              exact ⟨[0, 1], True, by kernel_rfl, trivial⟩

/- spec.newReader -/
def spec_newReader (x1 : List Int) : Option (Nat) :=
 bindO (iteO (decide (2000 < ((x1.length : Nat) : Int)))
 (guardO (0 ≤ (2000 : Int) ∧ (2000 : Int) ≤ ((x1.length : Nat) : Int)) <|
 some 2000)
 (some x1.length)) fun k9 =>
 some k9

theorem spec_newReader_ok (x1 : List Int) (k6 : Nat) (h : spec_newReader x1 = some k6) : FOk EE 29 [.one (.e (.sl 0 0 x1.length))] [.row .u8 x1 false] (.one (.e (.p 1 0))) [.row .u8 x1 false, .cells [.sl 0 0 k6, cI 0]] := by
  unfold spec_newReader at h
  refine FOk_of_W 11 1 Try.func29 rfl rfl (Nat.le_of_ble_eq_true rfl) rfl (fun w X θ => ?_)
  refine W_seq ?_
  refine W_region ?_
  refine WO_step 1 [0] [0] True ⟨[(0, .one (.e (.sl 0 0 x1.length)))], [.row .u8 x1 false]⟩ (by kernel_rfl) trivial ?_
  refine WO_nil rfl ?_
  refine thenS_n ?_
  refine W_seq ?_
  refine W_seq ?_
  refine W_region ?_
  refine WO_step 3 [0] [0, 5] (True ∧ (True ∧ True)) ⟨[(0, .one (.e (.sl 0 0 x1.length))), (5, B (decide (2000 < ((x1.length : Nat) : Int))))], [.row .u8 x1 false]⟩ (by kernel_rfl) ⟨trivial, trivial, trivial⟩ ?_
  refine WO_nil rfl ?_
  refine thenS_n ?_
  refine bindO_e h (fun k9 hk9 h => ?_)
  refine W_cut (Q' := fun (e : Exit) (s : St) => e = .normal ∧ s = ⟨[(0, .one (.e (.sl 0 0 k9)))], [.row .u8 x1 false]⟩) ?_ ?_
  · refine iteO_e hk9 (fun hb11 hk9 => W_true rfl hb11 ?_) (fun hb11 hk9 => W_false rfl hb11 ?_)
    · refine W_region ?_
      refine guardO_e hk9 (fun hg12 hk9 => ?_)
      refine WO_step 3 [0] [0] ((0 ≤ (2000 : Int) ∧ (2000 : Int) ≤ ((x1.length : Nat) : Int)) ∧ True) ⟨[(0, .one (.e (.sl 0 0 2000)))], [.row .u8 x1 false]⟩ (by kernel_rfl) ⟨hg12, trivial⟩ ?_
      refine WO_nil rfl ?_
      cases hk9
      exact And.intro rfl rfl
    · refine W_sub [0] [0] (st' := ⟨[(0, .one (.e (.sl 0 0 x1.length)))], [.row .u8 x1 false]⟩) (by kernel_rfl) ?_
      refine W_skip ?_
      cases hk9
      exact And.intro rfl rfl
  · rintro _ _ ⟨rfl, rfl⟩
    refine thenS_n ?_
    refine W_seq ?_
    refine W_region ?_
    refine WO_step 4 [0, 1] [2] (True ∧ True) ⟨[(2, .one (.e (.p 1 0)))], [.row .u8 x1 false, .cells [.sl 0 0 k9, cI 0]]⟩ (by kernel_rfl) ⟨trivial, trivial⟩ ?_
    refine WO_nil rfl ?_
    refine thenS_n ?_
    refine W_ret ?_
    cases h
    exact ⟨[0, 1], True, by kernel_rfl, trivial⟩

/- spec.reader).pick -/
def spec_reader_pick (x1 : List Int) (k2 : Nat) (i3 : Int) (i4 : Int) : Option (Int) :=
 iteO ((decide (i4 < 1)) || (decide (((k2 : Nat) : Int) = 0)))
 (some 0)
 (iteO (decide ((w64 ((w64 (i3 + 1)) - 1)) < ((k2 : Nat) : Int)))
 (guardO (0 ≤ (w64 ((w64 (i3 + 1)) - 1)) ∧ (w64 ((w64 (i3 + 1)) - 1)) < ((k2 : Nat) : Int)) <|
 guardO ((i4 : Int) ≠ 0) <|
 some ((w64 (x1.getD ((w64 ((w64 (i3 + 1)) - 1)).toNat) 0)).tmod i4))
 (guardO ((((k2 : Nat) : Int) : Int) ≠ 0) <|
 guardO (0 ≤ ((w64 ((w64 (i3 + 1)) - 1)).tmod ((k2 : Nat) : Int)) ∧ ((w64 ((w64 (i3 + 1)) - 1)).tmod ((k2 : Nat) : Int)) < ((k2 : Nat) : Int)) <|
 guardO ((((k2 : Nat) : Int) : Int) ≠ 0) <|
 guardO (0 ≤ ((w64 ((w64 ((w64 ((w64 (i3 + 1)) - 1)) * 7)) + 3)).tmod ((k2 : Nat) : Int)) ∧ ((w64 ((w64 ((w64 ((w64 (i3 + 1)) - 1)) * 7)) + 3)).tmod ((k2 : Nat) : Int)) < ((k2 : Nat) : Int)) <|
 guardO ((((k2 : Nat) : Int) : Int) ≠ 0) <|
 guardO ((i4 : Int) ≠ 0) <|
 some ((w64 (BitVec.ofInt 64 (w64 ((w64 ((w64 ((w64 ((w64 (x1.getD (((w64 ((w64 (i3 + 1)) - 1)).tmod ((k2 : Nat) : Int)).toNat) 0)) * 131)) + (w64 ((w64 (x1.getD (((w64 ((w64 ((w64 ((w64 (i3 + 1)) - 1)) * 7)) + 3)).tmod ((k2 : Nat) : Int)).toNat) 0)) * 1117)))) + (w64 ((w64 ((w64 (i3 + 1)) - 1)) * 29)))) + (w64 ((w64 ((w64 ((w64 (i3 + 1)) - 1)).tdiv ((k2 : Nat) : Int))) * 53)))) ^^^ BitVec.ofInt 64 (w64 ((w64 ((w64 ((w64 ((w64 ((w64 (x1.getD (((w64 ((w64 (i3 + 1)) - 1)).tmod ((k2 : Nat) : Int)).toNat) 0)) * 131)) + (w64 ((w64 (x1.getD (((w64 ((w64 ((w64 ((w64 (i3 + 1)) - 1)) * 7)) + 3)).tmod ((k2 : Nat) : Int)).toNat) 0)) * 1117)))) + (w64 ((w64 ((w64 (i3 + 1)) - 1)) * 29)))) + (w64 ((w64 ((w64 ((w64 (i3 + 1)) - 1)).tdiv ((k2 : Nat) : Int))) * 53)))).tdiv 64))).toNat).tmod i4)))

theorem spec_reader_pick_ok (x1 : List Int) (k2 : Nat) (i3 : Int) (i4 : Int) (i22 : Int) (h : spec_reader_pick x1 k2 i3 i4 = some i22) : FOk EE 31 [.one (.e (.p 0 0)), I i4] [.cells [.sl 1 0 k2, cI i3], .row .u8 x1 false] (I i22) [.cells [.sl 1 0 k2, cI (w64 (i3 + 1))], .row .u8 x1 false] := by
  unfold spec_reader_pick at h
  refine FOk_of_W 99 2 Try.func31 rfl rfl (Nat.le_of_ble_eq_true rfl) rfl (fun w X θ => ?_)
  refine W_seq ?_
  refine W_region ?_
  refine WO_step 1 [0, 1] [0, 1] True ⟨[(0, .one (.e (.p 0 0))), (1, I i4)], [.cells [.sl 1 0 k2, cI i3], .row .u8 x1 false]⟩ (by kernel_rfl) trivial ?_
  refine WO_nil rfl ?_
  refine thenS_n ?_
  refine W_seq ?_
  refine W_region ?_
  refine WO_step 9 [0, 1] [0, 1] (True ∧ (True ∧ (True ∧ True))) ⟨[(0, .one (.e (.p 0 0))), (1, I i4)], [.cells [.sl 1 0 k2, cI (w64 (i3 + 1))], .row .u8 x1 false]⟩ (by kernel_rfl) ⟨trivial, trivial, trivial, trivial⟩ ?_
  refine WO_nil rfl ?_
  refine thenS_n ?_
  refine W_seq ?_
  refine W_seq ?_
  refine W_region ?_
  refine WO_step 3 [0, 1] [0, 1, 17] (True ∧ True) ⟨[(0, .one (.e (.p 0 0))), (1, I i4), (17, B (decide (i4 < 1)))], [.cells [.sl 1 0 k2, cI (w64 (i3 + 1))], .row .u8 x1 false]⟩ (by kernel_rfl) ⟨trivial, trivial⟩ ?_
  refine WO_thru ⟨[(0, .one (.e (.p 0 0))), (1, I i4), (24, B ((decide (i4 < 1)) || (decide (((k2 : Nat) : Int) = 0))))], [.cells [.sl 1 0 k2, cI (w64 (i3 + 1))], .row .u8 x1 false]⟩ ?_ ?_
  · refine WO_if 17 rfl (fun hb25 => ?_) (fun hb25 => ?_)
    · refine WO_step 7 [0, 1] [0, 1, 24] True ⟨[(0, .one (.e (.p 0 0))), (1, I i4), (24, B true)], [.cells [.sl 1 0 k2, cI (w64 (i3 + 1))], .row .u8 x1 false]⟩ (by kernel_rfl) trivial ?_
      exact WO_nil rfl ⟨rfl, by first | rfl | (rw [hb25]; first | done | rfl)⟩
    · refine WO_step 7 [0, 1] [0, 1, 24] (True ∧ (True ∧ (True ∧ True))) ⟨[(0, .one (.e (.p 0 0))), (1, I i4), (24, B (decide (((k2 : Nat) : Int) = 0)))], [.cells [.sl 1 0 k2, cI (w64 (i3 + 1))], .row .u8 x1 false]⟩ (by kernel_rfl) ⟨trivial, trivial, trivial, trivial⟩ ?_
      exact WO_nil rfl ⟨rfl, by first | rfl | (rw [hb25]; first | done | rfl)⟩
  · refine thenS_n ?_
    refine iteO_e h (fun hb27 h => W_true rfl hb27 ?_) (fun hb27 h => W_false rfl hb27 ?_)
    · refine W_seq ?_
      refine W_region ?_
      refine WO_step 1 [0, 1] [4] True ⟨[(4, I 0)], [.cells [.sl 1 0 k2, cI (w64 (i3 + 1))], .row .u8 x1 false]⟩ (by kernel_rfl) trivial ?_
      refine WO_nil rfl ?_
      refine thenS_n ?_
      refine W_ret ?_
      refine thenS_r ?_
      cases h
      exact ⟨[0, 1], True, by kernel_rfl, trivial⟩
    · refine W_sub [0, 1] [0, 1] (st' := ⟨[(0, .one (.e (.p 0 0))), (1, I i4)], [.cells [.sl 1 0 k2, cI (w64 (i3 + 1))], .row .u8 x1 false]⟩) (by kernel_rfl) ?_
      refine W_skip ?_
      refine thenS_n ?_
      refine W_seq ?_
      refine W_region ?_
      refine WO_step 6 [0, 1] [0, 1, 5] (True ∧ (True ∧ True)) ⟨[(0, .one (.e (.p 0 0))), (1, I i4), (5, I (w64 ((w64 (i3 + 1)) - 1)))], [.cells [.sl 1 0 k2, cI (w64 (i3 + 1))], .row .u8 x1 false]⟩ (by kernel_rfl) ⟨trivial, trivial, trivial⟩ ?_
      refine WO_nil rfl ?_
      refine thenS_n ?_
      refine W_seq ?_
      refine W_seq ?_
      refine W_region ?_
      refine WO_step 7 [0, 1] [0, 1, 5, 36] (True ∧ (True ∧ (True ∧ True))) ⟨[(0, .one (.e (.p 0 0))), (1, I i4), (5, I (w64 ((w64 (i3 + 1)) - 1))), (36, B (decide ((w64 ((w64 (i3 + 1)) - 1)) < ((k2 : Nat) : Int))))], [.cells [.sl 1 0 k2, cI (w64 (i3 + 1))], .row .u8 x1 false]⟩ (by kernel_rfl) ⟨trivial, trivial, trivial, trivial⟩ ?_
      refine WO_nil rfl ?_
      refine thenS_n ?_
      refine iteO_e h (fun hb31 h => W_true rfl hb31 ?_) (fun hb31 h => W_false rfl hb31 ?_)
      · refine W_seq ?_
        refine W_region ?_
        refine guardO_e h (fun hg32 h => ?_)
        refine guardO_e h (fun hg33 h => ?_)
        refine WO_step 11 [0, 1] [4] (True ∧ ((0 ≤ (w64 ((w64 (i3 + 1)) - 1)) ∧ (w64 ((w64 (i3 + 1)) - 1)) < ((k2 : Nat) : Int)) ∧ (True ∧ (True ∧ (((i4 : Int) ≠ 0) ∧ True))))) ⟨[(4, I ((w64 (x1.getD ((w64 ((w64 (i3 + 1)) - 1)).toNat) 0)).tmod i4))], [.cells [.sl 1 0 k2, cI (w64 (i3 + 1))], .row .u8 x1 false]⟩ (by kernel_rfl) ⟨trivial, hg32, trivial, trivial, hg33, trivial⟩ ?_
        refine WO_nil rfl ?_
        refine thenS_n ?_
        refine W_ret ?_
        refine thenS_r ?_
        cases h
        exact ⟨[0, 1], True, by kernel_rfl, trivial⟩
      · refine W_sub [0, 1] [0, 1, 5] (st' := ⟨[(0, .one (.e (.p 0 0))), (1, I i4), (5, I (w64 ((w64 (i3 + 1)) - 1)))], [.cells [.sl 1 0 k2, cI (w64 (i3 + 1))], .row .u8 x1 false]⟩) (by kernel_rfl) ?_
        refine W_skip ?_
        refine thenS_n ?_
        refine W_seq ?_
        refine guardO_e h (fun hg34 h => ?_)
        refine guardO_e h (fun hg35 h => ?_)
        refine guardO_e h (fun hg36 h => ?_)
        refine guardO_e h (fun hg37 h => ?_)
        refine guardO_e h (fun hg38 h => ?_)
        refine W_cut (Q' := fun (e : Exit) (s : St) => e = .normal ∧ s = ⟨[(1, I i4), (6, I (w64 ((w64 ((w64 ((w64 ((w64 (x1.getD (((w64 ((w64 (i3 + 1)) - 1)).tmod ((k2 : Nat) : Int)).toNat) 0)) * 131)) + (w64 ((w64 (x1.getD (((w64 ((w64 ((w64 ((w64 (i3 + 1)) - 1)) * 7)) + 3)).tmod ((k2 : Nat) : Int)).toNat) 0)) * 1117)))) + (w64 ((w64 ((w64 (i3 + 1)) - 1)) * 29)))) + (w64 ((w64 ((w64 ((w64 (i3 + 1)) - 1)).tdiv ((k2 : Nat) : Int))) * 53)))))], [.cells [.sl 1 0 k2, cI (w64 (i3 + 1))], .row .u8 x1 false]⟩) ?_ ?_
        · refine W_draw [] true (by kernel_rfl) (by kernel_rfl) ?_
          refine WD_takeK [0, 1, 2, 3, 4, 5, 6, 7, 8, 9, 10, 11, 12, 13, 14, 15, 16, 17, 18, 19, 20, 21, 22, 23, 24, 25, 26, 27, 28, 29, 30, 31, 32, 33, 34, 35, 36, 37, 38, 39, 40, 41, 42, 43, 44, 45] [1, 6] [1, 6] (φ := (True ∧ True ∧ (True ∧ True ∧ (True ∧ True ∧ (((((k2 : Nat) : Int) : Int) ≠ 0) ∧ ((((k2 : Nat) : Int) : Int) ≠ 0) ∧ ((0 ≤ ((w64 ((w64 (i3 + 1)) - 1)).tmod ((k2 : Nat) : Int)) ∧ ((w64 ((w64 (i3 + 1)) - 1)).tmod ((k2 : Nat) : Int)) < ((k2 : Nat) : Int)) ∧ (0 ≤ ((w64 ((w64 (i3 + 1)) - 1)).tmod ((k2 : Nat) : Int)) ∧ ((w64 ((w64 (i3 + 1)) - 1)).tmod ((k2 : Nat) : Int)) < ((k2 : Nat) : Int)) ∧ (True ∧ True ∧ (True ∧ True ∧ (True ∧ True ∧ (True ∧ True ∧ (True ∧ True ∧ (True ∧ True ∧ (True ∧ True ∧ (True ∧ True ∧ (((((k2 : Nat) : Int) : Int) ≠ 0) ∧ ((((k2 : Nat) : Int) : Int) ≠ 0) ∧ ((0 ≤ ((w64 ((w64 ((w64 ((w64 (i3 + 1)) - 1)) * 7)) + 3)).tmod ((k2 : Nat) : Int)) ∧ ((w64 ((w64 ((w64 ((w64 (i3 + 1)) - 1)) * 7)) + 3)).tmod ((k2 : Nat) : Int)) < ((k2 : Nat) : Int)) ∧ (0 ≤ ((w64 ((w64 ((w64 ((w64 (i3 + 1)) - 1)) * 7)) + 3)).tmod ((k2 : Nat) : Int)) ∧ ((w64 ((w64 ((w64 ((w64 (i3 + 1)) - 1)) * 7)) + 3)).tmod ((k2 : Nat) : Int)) < ((k2 : Nat) : Int)) ∧ (True ∧ True ∧ (True ∧ True ∧ (True ∧ True ∧ (True ∧ True ∧ (True ∧ True ∧ (True ∧ True ∧ (True ∧ True ∧ (True ∧ True ∧ (((((k2 : Nat) : Int) : Int) ≠ 0) ∧ ((((k2 : Nat) : Int) : Int) ≠ 0) ∧ (True ∧ True ∧ (True ∧ True ∧ True))))))))))))))))))))))))))) (ls' := #[true, true, true, true, true, true, true, true, true, true, true, true, true, true, true, true, true, true, true, true, true, true, true, true, true, true, true, true, true, true, true, true, true, true, true, true, true, true, true, true, true, true, true, true, true, true]) (Ts' := [(1, I i4), (6, I (w64 ((w64 ((w64 ((w64 ((w64 (x1.getD (((w64 ((w64 (i3 + 1)) - 1)).tmod ((k2 : Nat) : Int)).toNat) 0)) * 131)) + (w64 ((w64 (x1.getD (((w64 ((w64 ((w64 ((w64 (i3 + 1)) - 1)) * 7)) + 3)).tmod ((k2 : Nat) : Int)).toNat) 0)) * 1117)))) + (w64 ((w64 ((w64 (i3 + 1)) - 1)) * 29)))) + (w64 ((w64 ((w64 ((w64 (i3 + 1)) - 1)).tdiv ((k2 : Nat) : Int))) * 53)))))]) (st' := ⟨[(1, I i4), (6, I (w64 ((w64 ((w64 ((w64 ((w64 (x1.getD (((w64 ((w64 (i3 + 1)) - 1)).tmod ((k2 : Nat) : Int)).toNat) 0)) * 131)) + (w64 ((w64 (x1.getD (((w64 ((w64 ((w64 ((w64 (i3 + 1)) - 1)) * 7)) + 3)).tmod ((k2 : Nat) : Int)).toNat) 0)) * 1117)))) + (w64 ((w64 ((w64 (i3 + 1)) - 1)) * 29)))) + (w64 ((w64 ((w64 ((w64 (i3 + 1)) - 1)).tdiv ((k2 : Nat) : Int))) * 53)))))], [.cells [.sl 1 0 k2, cI (w64 (i3 + 1))], .row .u8 x1 false]⟩) (n2 := 0) (by kernel_rfl) ⟨trivial, trivial, trivial, trivial, trivial, trivial, hg34, hg34, hg35, hg35, trivial, trivial, trivial, trivial, trivial, trivial, trivial, trivial, trivial, trivial, trivial, trivial, trivial, trivial, trivial, trivial, hg36, hg36, hg37, hg37, trivial, trivial, trivial, trivial, trivial, trivial, trivial, trivial, trivial, trivial, trivial, trivial, trivial, trivial, trivial, trivial, hg38, hg38, trivial, trivial, trivial, trivial, trivial⟩ rfl ?_
          exact WD_done [0, 1] [1, 6] (st' := ⟨[(1, I i4), (6, I (w64 ((w64 ((w64 ((w64 ((w64 (x1.getD (((w64 ((w64 (i3 + 1)) - 1)).tmod ((k2 : Nat) : Int)).toNat) 0)) * 131)) + (w64 ((w64 (x1.getD (((w64 ((w64 ((w64 ((w64 (i3 + 1)) - 1)) * 7)) + 3)).tmod ((k2 : Nat) : Int)).toNat) 0)) * 1117)))) + (w64 ((w64 ((w64 (i3 + 1)) - 1)) * 29)))) + (w64 ((w64 ((w64 ((w64 (i3 + 1)) - 1)).tdiv ((k2 : Nat) : Int))) * 53)))))], [.cells [.sl 1 0 k2, cI (w64 (i3 + 1))], .row .u8 x1 false]⟩) (by kernel_rfl) (by kernel_rfl) (And.intro rfl rfl)
        · rintro _ _ ⟨rfl, rfl⟩
          refine thenS_n ?_
          refine W_seq ?_
          refine W_region ?_
          refine WO_step 5 [0, 1] [1, 6] (((64 : Int) ≠ 0) ∧ (True ∧ True)) ⟨[(1, I i4), (6, I (w64 (BitVec.ofInt 64 (w64 ((w64 ((w64 ((w64 ((w64 (x1.getD (((w64 ((w64 (i3 + 1)) - 1)).tmod ((k2 : Nat) : Int)).toNat) 0)) * 131)) + (w64 ((w64 (x1.getD (((w64 ((w64 ((w64 ((w64 (i3 + 1)) - 1)) * 7)) + 3)).tmod ((k2 : Nat) : Int)).toNat) 0)) * 1117)))) + (w64 ((w64 ((w64 (i3 + 1)) - 1)) * 29)))) + (w64 ((w64 ((w64 ((w64 (i3 + 1)) - 1)).tdiv ((k2 : Nat) : Int))) * 53)))) ^^^ BitVec.ofInt 64 (w64 ((w64 ((w64 ((w64 ((w64 ((w64 (x1.getD (((w64 ((w64 (i3 + 1)) - 1)).tmod ((k2 : Nat) : Int)).toNat) 0)) * 131)) + (w64 ((w64 (x1.getD (((w64 ((w64 ((w64 ((w64 (i3 + 1)) - 1)) * 7)) + 3)).tmod ((k2 : Nat) : Int)).toNat) 0)) * 1117)))) + (w64 ((w64 ((w64 (i3 + 1)) - 1)) * 29)))) + (w64 ((w64 ((w64 ((w64 (i3 + 1)) - 1)).tdiv ((k2 : Nat) : Int))) * 53)))).tdiv 64))).toNat))], [.cells [.sl 1 0 k2, cI (w64 (i3 + 1))], .row .u8 x1 false]⟩ (by kernel_rfl) ⟨(by decide), trivial, trivial⟩ ?_
          refine WO_nil rfl ?_
          refine thenS_n ?_
          refine W_seq ?_
          refine W_region ?_
          refine guardO_e h (fun hg39 h => ?_)
          refine WO_step 4 [0, 1] [4] (((i4 : Int) ≠ 0) ∧ True) ⟨[(4, I ((w64 (BitVec.ofInt 64 (w64 ((w64 ((w64 ((w64 ((w64 (x1.getD (((w64 ((w64 (i3 + 1)) - 1)).tmod ((k2 : Nat) : Int)).toNat) 0)) * 131)) + (w64 ((w64 (x1.getD (((w64 ((w64 ((w64 ((w64 (i3 + 1)) - 1)) * 7)) + 3)).tmod ((k2 : Nat) : Int)).toNat) 0)) * 1117)))) + (w64 ((w64 ((w64 (i3 + 1)) - 1)) * 29)))) + (w64 ((w64 ((w64 ((w64 (i3 + 1)) - 1)).tdiv ((k2 : Nat) : Int))) * 53)))) ^^^ BitVec.ofInt 64 (w64 ((w64 ((w64 ((w64 ((w64 ((w64 (x1.getD (((w64 ((w64 (i3 + 1)) - 1)).tmod ((k2 : Nat) : Int)).toNat) 0)) * 131)) + (w64 ((w64 (x1.getD (((w64 ((w64 ((w64 ((w64 (i3 + 1)) - 1)) * 7)) + 3)).tmod ((k2 : Nat) : Int)).toNat) 0)) * 1117)))) + (w64 ((w64 ((w64 (i3 + 1)) - 1)) * 29)))) + (w64 ((w64 ((w64 ((w64 (i3 + 1)) - 1)).tdiv ((k2 : Nat) : Int))) * 53)))).tdiv 64))).toNat).tmod i4))], [.cells [.sl 1 0 k2, cI (w64 (i3 + 1))], .row .u8 x1 false]⟩ (by kernel_rfl) ⟨hg39, trivial⟩ ?_
          refine WO_nil rfl ?_
          refine thenS_n ?_
          refine W_ret ?_
          cases h
          exact ⟨[0, 1], True, by kernel_rfl, trivial⟩

end Go.Proofs.Ythlfcfcfipahiaa

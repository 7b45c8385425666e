import Derived.Test.YthlfcfcfipahiaaTT2
namespace Go.Proofs.Ythlfcfcfipahiaa
open Go Go.Shelf Go.Proofs
set_option linter.unusedVariables false
/- stringslite.Cut -/
def stringslite_Cut (s1 : Str) (s2 : Str) : Option (Str × Str × Bool) :=
 bindO (stringslite_Index s1 s2) fun i14 =>
 iteO (decide (0 ≤ i14))
 (guardO (0 ≤ i14 ∧ i14 ≤ ((s1.length : Nat) : Int)) <|
 guardO (0 ≤ (w64 (i14 + ((s2.length : Nat) : Int))) ∧ (w64 (i14 + ((s2.length : Nat) : Int))) ≤ ((s1.length : Nat) : Int)) <|
 some ((s1.take i14.toNat), (s1.drop ((w64 (i14 + ((s2.length : Nat) : Int))).toNat)), true))
 (some (s1, [], false))

theorem stringslite_Cut_ok (s1 : Str) (s2 : Str) (s11 : Str) (s12 : Str) (b13 : Bool) (h : stringslite_Cut s1 s2 = some (s11, s12, b13)) : FOk EE 70 [S s1, S s2] [] (.tup [.e (cS s11), .e (cS s12), .e (cB b13)]) [] := by
  unfold stringslite_Cut at h
  refine FOk_of_W 23 0 Try.func70 rfl rfl (Nat.le_of_ble_eq_true rfl) rfl (fun w X θ => ?_)
  refine W_seq ?_
  refine W_region ?_
  refine WO_step 3 [] [0, 1] True ⟨[(0, S s1), (1, S s2)], []⟩ (by kernel_rfl) trivial ?_
  refine WO_nil rfl ?_
  refine thenS_n ?_
  refine W_seq ?_
  refine W_seq ?_
  refine W_region ?_
  refine WO_step 2 [] [0, 1, 8, 9] True ⟨[(0, S s1), (1, S s2), (8, S s1), (9, S s2)], []⟩ (by kernel_rfl) trivial ?_
  refine bindO_e h (fun i14 hc15 h => ?_)
  refine WO_call [] Try.f88 rfl rfl rfl (by kernel_rfl) Try.func88 rfl (by kernel_rfl) (stringslite_Index_ok s1 s2 i14 hc15) (trivial) rfl ?_
  refine WO_step 1 [] [0, 1, 7] True ⟨[(0, S s1), (1, S s2), (7, I i14)], []⟩ (by kernel_rfl) trivial ?_
  refine WO_nil rfl ?_
  refine thenS_n ?_
  refine W_seq ?_
  refine W_region ?_
  refine WO_step 2 [] [0, 1, 7, 12] (True ∧ True) ⟨[(0, S s1), (1, S s2), (7, I i14), (12, B (decide (0 ≤ i14)))], []⟩ (by kernel_rfl) ⟨trivial, trivial⟩ ?_
  refine WO_nil rfl ?_
  refine thenS_n ?_
  refine iteO_e h (fun hb19 h => W_true rfl hb19 ?_) (fun hb19 h => W_false rfl hb19 ?_)
  · refine W_seq ?_
    refine guardO_e h (fun hg20 h => ?_)
    refine guardO_e h (fun hg21 h => ?_)
    refine W_cut (Q' := fun (e : Exit) (s : St) => e = .normal ∧ s = ⟨[(4, S (s1.take i14.toNat)), (5, S (s1.drop ((w64 (i14 + ((s2.length : Nat) : Int))).toNat))), (6, B true)], []⟩) ?_ ?_
    · refine W_draw [] true (by kernel_rfl) (by kernel_rfl) ?_
      refine WD_takeK [0, 1, 2, 3, 4, 5, 6, 7, 8, 9, 10, 11] [4, 5, 6] [4, 5, 6] (φ := ((0 ≤ i14 ∧ i14 ≤ ((s1.length : Nat) : Int)) ∧ (0 ≤ i14 ∧ i14 ≤ ((s1.length : Nat) : Int)) ∧ (True ∧ True ∧ (True ∧ True ∧ ((0 ≤ (w64 (i14 + ((s2.length : Nat) : Int))) ∧ (w64 (i14 + ((s2.length : Nat) : Int))) ≤ ((s1.length : Nat) : Int)) ∧ (0 ≤ (w64 (i14 + ((s2.length : Nat) : Int))) ∧ (w64 (i14 + ((s2.length : Nat) : Int))) ≤ ((s1.length : Nat) : Int)) ∧ True))))) (ls' := #[true, true, true, true, true, true, true, true, true, true, true, true]) (Ts' := [(4, S (s1.take i14.toNat)), (5, S (s1.drop ((w64 (i14 + ((s2.length : Nat) : Int))).toNat))), (6, B true)]) (st' := ⟨[(4, S (s1.take i14.toNat)), (5, S (s1.drop ((w64 (i14 + ((s2.length : Nat) : Int))).toNat))), (6, B true)], []⟩) (n2 := 0) (by kernel_rfl) ⟨hg20, hg20, trivial, trivial, trivial, trivial, hg21, hg21, trivial⟩ rfl ?_
      exact WD_done [] [4, 5, 6] (st' := ⟨[(4, S (s1.take i14.toNat)), (5, S (s1.drop ((w64 (i14 + ((s2.length : Nat) : Int))).toNat))), (6, B true)], []⟩) (by kernel_rfl) (by kernel_rfl) (And.intro rfl rfl)
    · rintro _ _ ⟨rfl, rfl⟩
      refine thenS_n ?_
      refine W_ret ?_
      refine thenS_r ?_
      cases h
      exact ⟨[], True, by kernel_rfl, trivial⟩
  · refine W_sub [] [0] (st' := ⟨[(0, S s1)], []⟩) (by kernel_rfl) ?_
    refine W_skip ?_
    refine thenS_n ?_
    refine W_seq ?_
    refine W_region ?_
    refine WO_step 4 [] [4, 5, 6] True ⟨[(4, S s1), (5, S []), (6, B false)], []⟩ (by kernel_rfl) trivial ?_
    refine WO_nil rfl ?_
    refine thenS_n ?_
    refine W_ret ?_
    cases h
    exact ⟨[], True, by kernel_rfl, trivial⟩

/- strings.Cut -/
def strings_Cut (s1 : Str) (s2 : Str) : Option (Str × Str × Bool) :=
 bindO (stringslite_Cut s1 s2) fun (s11, s12, b13) =>
 some (s11, s12, b13)

theorem strings_Cut_ok (s1 : Str) (s2 : Str) (s8 : Str) (s9 : Str) (b10 : Bool) (h : strings_Cut s1 s2 = some (s8, s9, b10)) : FOk EE 43 [S s1, S s2] [] (.tup [.e (cS s8), .e (cS s9), .e (cB b10)]) [] := by
  unfold strings_Cut at h
  refine FOk_of_W 13 0 Try.func43 rfl rfl (Nat.le_of_ble_eq_true rfl) rfl (fun w X θ => ?_)
  refine W_seq ?_
  refine W_region ?_
  refine WO_step 3 [] [0, 1] True ⟨[(0, S s1), (1, S s2)], []⟩ (by kernel_rfl) trivial ?_
  refine WO_nil rfl ?_
  refine thenS_n ?_
  refine W_seq ?_
  refine W_region ?_
  refine WO_step 2 [] [7, 8] True ⟨[(7, S s1), (8, S s2)], []⟩ (by kernel_rfl) trivial ?_
  refine bindO_e h (fun v15 hc14 h => ?_)
  obtain ⟨s11, s12, b13⟩ := v15
  refine WO_call [] Try.f70 rfl rfl rfl (by kernel_rfl) Try.func70 rfl (by kernel_rfl) (stringslite_Cut_ok s1 s2 s11 s12 b13 hc14) (trivial) rfl ?_
  refine WO_step 6 [] [4, 5, 6] True ⟨[(4, S s11), (5, S s12), (6, B b13)], []⟩ (by kernel_rfl) trivial ?_
  refine WO_nil rfl ?_
  refine thenS_n ?_
  refine W_ret ?_
  cases h
  exact ⟨[], True, by kernel_rfl, trivial⟩

/- impl.ResolvePath -/
def impl_ResolvePath_L1 (x1 : List Nod) : Nat → Str → Int → Bool → Option ((Unit) ⊕ (Int))
| 0, _, _, _ => none
| n + 1, s129, i130, b131 =>
 iteO b131
 (bindO (strings_Cut s129 [47]) fun (s168, s169, b170) =>
 bindO (impl_kidIn n x1 i130 s168) fun i172 =>
 iteO (decide (i172 < 0))
 (some (.inl ()))
 (impl_ResolvePath_L1 x1 n s169 i172 b170))
 (some (.inr i130))

theorem impl_ResolvePath_L1_ok (w : World) (X : Nat → Prop) (θ : List Loc) (x1 : List Nod) (v : (Unit) ⊕ (Int)) : ∀ (n : Nat) (s129 : Str) (i130 : Int) (b131 : Bool), impl_ResolvePath_L1 x1 n s129 i130 b131 = some v → WL EE ⟨w, X, θ, 36, 1⟩ (subC [1, 1, 1, 1, 1, 1, 0, 1, 4, 4] (bodyC Try.f14)) (fun (e : Exit) (s : St) => (match v with | (.inl _) => e = .ret ∧ s = ⟨[(4, I (-1))], [.row .nod x1 false]⟩ | (.inr i155) => e = .exit 0 ∧ s = ⟨[(7, I i155)], [.row .nod x1 false]⟩ : Prop)) ⟨[(0, .one (.e (.sl 0 0 x1.length))), (5, S s129), (7, I i130), (8, B b131)], [.row .nod x1 false]⟩ := by
  intro n
  induction n with
  | zero => intro _ _ _ h; exact none_e h
  | succ n ih =>
    intro s129 i130 b131 h
    rw [impl_ResolvePath_L1] at h
    refine WL_round ?_
    refine W_seq ?_
    refine W_seq ?_
    refine W_region ?_
    refine WO_step 1 [0] [0, 5, 7, 22] True ⟨[(0, .one (.e (.sl 0 0 x1.length))), (5, S s129), (7, I i130), (22, B b131)], [.row .nod x1 false]⟩ (by kernel_rfl) trivial ?_
    refine WO_nil rfl ?_
    refine thenS_n ?_
    refine iteO_e h (fun hb158 h => W_true rfl hb158 ?_) (fun hb158 h => W_false rfl hb158 ?_)
    · refine W_sub [0] [0, 5, 7] (st' := ⟨[(0, .one (.e (.sl 0 0 x1.length))), (5, S s129), (7, I i130)], [.row .nod x1 false]⟩) (by kernel_rfl) ?_
      refine W_skip ?_
      refine thenS_n ?_
      refine W_block ?_
      refine W_seq ?_
      refine W_region ?_
      refine WO_step 1 [0] [0, 5, 7] True ⟨[(0, .one (.e (.sl 0 0 x1.length))), (5, S s129), (7, I i130)], [.row .nod x1 false]⟩ (by kernel_rfl) trivial ?_
      refine WO_nil rfl ?_
      refine thenS_n ?_
      refine W_seq ?_
      refine W_region ?_
      refine WO_step 1 [0] [0, 7, 24] True ⟨[(0, .one (.e (.sl 0 0 x1.length))), (7, I i130), (24, S s129)], [.row .nod x1 false]⟩ (by kernel_rfl) trivial ?_
      refine bindO_e h (fun v176 hc171 h => ?_)
      obtain ⟨s168, s169, b170⟩ := v176
      refine WO_call [] Try.f43 rfl rfl rfl (by kernel_rfl) Try.func43 rfl (by kernel_rfl) (strings_Cut_ok s129 [47] s168 s169 b170 hc171) (trivial) rfl ?_
      refine WO_step 7 [0] [0, 5, 7, 8, 9] True ⟨[(0, .one (.e (.sl 0 0 x1.length))), (5, S s169), (7, I i130), (8, B b170), (9, S s168)], [.row .nod x1 false]⟩ (by kernel_rfl) trivial ?_
      refine WO_nil rfl ?_
      refine thenS_n ?_
      refine W_seq ?_
      refine W_region ?_
      refine WO_step 3 [0] [0, 5, 8, 29, 30, 31] True ⟨[(0, .one (.e (.sl 0 0 x1.length))), (5, S s169), (8, B b170), (29, .one (.e (.sl 0 0 x1.length))), (30, I i130), (31, S s168)], [.row .nod x1 false]⟩ (by kernel_rfl) trivial ?_
      refine bindO_e h (fun i172 hc173 h => ?_)
      refine WO_call [.ro 0] Try.f41 rfl rfl rfl (by kernel_rfl) Try.func41 rfl (by kernel_rfl) (impl_kidIn_ok n x1 i130 s168 i172 hc173) (And.intro (And.intro rfl rfl) (trivial)) rfl ?_
      refine WO_step 1 [0] [0, 5, 7, 8] True ⟨[(0, .one (.e (.sl 0 0 x1.length))), (5, S s169), (7, I i172), (8, B b170)], [.row .nod x1 false]⟩ (by kernel_rfl) trivial ?_
      refine WO_nil rfl ?_
      refine thenS_n ?_
      refine W_seq ?_
      refine W_region ?_
      refine WO_step 2 [0] [0, 5, 7, 8, 34] (True ∧ True) ⟨[(0, .one (.e (.sl 0 0 x1.length))), (5, S s169), (7, I i172), (8, B b170), (34, B (decide (i172 < 0)))], [.row .nod x1 false]⟩ (by kernel_rfl) ⟨trivial, trivial⟩ ?_
      refine WO_nil rfl ?_
      refine thenS_n ?_
      refine iteO_e h (fun hb175 h => W_true rfl hb175 ?_) (fun hb175 h => W_false rfl hb175 ?_)
      · refine W_seq ?_
        refine W_region ?_
        refine WO_step 1 [0] [4] True ⟨[(4, I (-1))], [.row .nod x1 false]⟩ (by kernel_rfl) trivial ?_
        refine WO_nil rfl ?_
        refine thenS_n ?_
        refine W_ret ?_
        refine blockS_r ?_
        refine thenS_r ?_
        cases h
        exact And.intro rfl rfl
      · refine W_sub [0] [0, 5, 7, 8] (st' := ⟨[(0, .one (.e (.sl 0 0 x1.length))), (5, S s169), (7, I i172), (8, B b170)], [.row .nod x1 false]⟩) (by kernel_rfl) ?_
        refine W_skip ?_
        refine blockS_n ?_
        refine thenS_n ?_
        exact ih _ _ _ h
    · refine W_sub [0] [7] (st' := ⟨[(7, I i130)], [.row .nod x1 false]⟩) (by kernel_rfl) ?_
      refine W_exit ?_
      refine thenS_e ?_
      refine thenS_e ?_
      cases h
      exact And.intro rfl rfl

def impl_ResolvePath (n : Nat) (x1 : List Nod) (s2 : Str) : Option (Int) :=
 bindO (impl_ValidTree n x1) fun b90 =>
 iteO (!b90)
 (some (-1))
 (bindO (strings_CutPrefix s2 [47]) fun (s94, b95) =>
 iteO (!b95)
 (some (-1))
 (iteO (decide (s94 = []))
 (some 0)
 (bindO (impl_ResolvePath_L1 x1 n s94 0 true) fun v177 =>
 match v177 with
 | (.inl _) => (some (-1))
 | (.inr i155) => (some i155)
)))

theorem impl_ResolvePath_ok (n : Nat) (x1 : List Nod) (s2 : Str) (i89 : Int) (h : impl_ResolvePath n x1 s2 = some i89) : FOk EE 14 [.one (.e (.sl 0 0 x1.length)), S s2] [.row .nod x1 false] (I i89) [.row .nod x1 false] := by
  unfold impl_ResolvePath at h
  refine FOk_of_W 36 1 Try.func14 rfl rfl (Nat.le_of_ble_eq_true rfl) rfl (fun w X θ => ?_)
  refine W_seq ?_
  refine W_region ?_
  refine WO_step 1 [0] [0, 1] True ⟨[(0, .one (.e (.sl 0 0 x1.length))), (1, S s2)], [.row .nod x1 false]⟩ (by kernel_rfl) trivial ?_
  refine WO_nil rfl ?_
  refine thenS_n ?_
  refine W_seq ?_
  refine W_seq ?_
  refine W_region ?_
  refine WO_step 1 [0] [0, 1, 10] True ⟨[(0, .one (.e (.sl 0 0 x1.length))), (1, S s2), (10, .one (.e (.sl 0 0 x1.length)))], [.row .nod x1 false]⟩ (by kernel_rfl) trivial ?_
  refine bindO_e h (fun b90 hc91 h => ?_)
  refine WO_call [.ro 0] Try.f13 rfl rfl rfl (by kernel_rfl) Try.func13 rfl (by kernel_rfl) (impl_ValidTree_ok n x1 b90 hc91) (And.intro (And.intro rfl rfl) (trivial)) rfl ?_
  refine WO_step 1 [0] [0, 1, 12] True ⟨[(0, .one (.e (.sl 0 0 x1.length))), (1, S s2), (12, B (!b90))], [.row .nod x1 false]⟩ (by kernel_rfl) trivial ?_
  refine WO_nil rfl ?_
  refine thenS_n ?_
  refine iteO_e h (fun hb93 h => W_true rfl hb93 ?_) (fun hb93 h => W_false rfl hb93 ?_)
  · refine W_seq ?_
    refine W_region ?_
    refine WO_step 1 [0] [4] True ⟨[(4, I (-1))], [.row .nod x1 false]⟩ (by kernel_rfl) trivial ?_
    refine WO_nil rfl ?_
    refine thenS_n ?_
    refine W_ret ?_
    refine thenS_r ?_
    cases h
    exact ⟨[0], True, by kernel_rfl, trivial⟩
  · refine W_sub [0] [0, 1] (st' := ⟨[(0, .one (.e (.sl 0 0 x1.length))), (1, S s2)], [.row .nod x1 false]⟩) (by kernel_rfl) ?_
    refine W_skip ?_
    refine thenS_n ?_
    refine W_seq ?_
    refine W_region ?_
    refine WO_step 1 [0] [0, 14] True ⟨[(0, .one (.e (.sl 0 0 x1.length))), (14, S s2)], [.row .nod x1 false]⟩ (by kernel_rfl) trivial ?_
    refine bindO_e h (fun v178 hc96 h => ?_)
    obtain ⟨s94, b95⟩ := v178
    refine WO_call [] Try.f42 rfl rfl rfl (by kernel_rfl) Try.func42 rfl (by kernel_rfl) (strings_CutPrefix_ok s2 [47] s94 b95 hc96) (trivial) rfl ?_
    refine WO_step 5 [0] [0, 5, 6] True ⟨[(0, .one (.e (.sl 0 0 x1.length))), (5, S s94), (6, B b95)], [.row .nod x1 false]⟩ (by kernel_rfl) trivial ?_
    refine WO_nil rfl ?_
    refine thenS_n ?_
    refine W_seq ?_
    refine W_seq ?_
    refine W_region ?_
    refine WO_step 2 [0] [0, 5, 19] True ⟨[(0, .one (.e (.sl 0 0 x1.length))), (5, S s94), (19, B (!b95))], [.row .nod x1 false]⟩ (by kernel_rfl) trivial ?_
    refine WO_nil rfl ?_
    refine thenS_n ?_
    refine iteO_e h (fun hb98 h => W_true rfl hb98 ?_) (fun hb98 h => W_false rfl hb98 ?_)
    · refine W_seq ?_
      refine W_region ?_
      refine WO_step 1 [0] [4] True ⟨[(4, I (-1))], [.row .nod x1 false]⟩ (by kernel_rfl) trivial ?_
      refine WO_nil rfl ?_
      refine thenS_n ?_
      refine W_ret ?_
      refine thenS_r ?_
      cases h
      exact ⟨[0], True, by kernel_rfl, trivial⟩
    · refine W_sub [0] [0, 5] (st' := ⟨[(0, .one (.e (.sl 0 0 x1.length))), (5, S s94)], [.row .nod x1 false]⟩) (by kernel_rfl) ?_
      refine W_skip ?_
      refine thenS_n ?_
      refine W_seq ?_
      refine W_seq ?_
      refine W_region ?_
      refine WO_step 2 [0] [0, 5, 21] (True ∧ True) ⟨[(0, .one (.e (.sl 0 0 x1.length))), (5, S s94), (21, B (decide (s94 = [])))], [.row .nod x1 false]⟩ (by kernel_rfl) ⟨trivial, trivial⟩ ?_
      refine WO_nil rfl ?_
      refine thenS_n ?_
      refine iteO_e h (fun hb100 h => W_true rfl hb100 ?_) (fun hb100 h => W_false rfl hb100 ?_)
      · refine W_seq ?_
        refine W_region ?_
        refine WO_step 1 [0] [4] True ⟨[(4, I 0)], [.row .nod x1 false]⟩ (by kernel_rfl) trivial ?_
        refine WO_nil rfl ?_
        refine thenS_n ?_
        refine W_ret ?_
        refine thenS_r ?_
        cases h
        exact ⟨[0], True, by kernel_rfl, trivial⟩
      · refine W_sub [0] [0, 5] (st' := ⟨[(0, .one (.e (.sl 0 0 x1.length))), (5, S s94)], [.row .nod x1 false]⟩) (by kernel_rfl) ?_
        refine W_skip ?_
        refine thenS_n ?_
        refine W_seq ?_
        refine W_region ?_
        refine WO_step 1 [0] [0, 5, 7] True ⟨[(0, .one (.e (.sl 0 0 x1.length))), (5, S s94), (7, I 0)], [.row .nod x1 false]⟩ (by kernel_rfl) trivial ?_
        refine WO_nil rfl ?_
        refine thenS_n ?_
        refine W_seq ?_
        refine W_seq ?_
        refine W_region ?_
        refine WO_step 1 [0] [0, 5, 7, 8] True ⟨[(0, .one (.e (.sl 0 0 x1.length))), (5, S s94), (7, I 0), (8, B true)], [.row .nod x1 false]⟩ (by kernel_rfl) trivial ?_
        refine WO_nil rfl ?_
        refine thenS_n ?_
        refine W_block ?_
        refine W_loop ?_
        refine bindO_e h (fun v177 hv177 h => ?_)
        refine WL_cut (impl_ResolvePath_L1_ok w X θ x1 v177 n s94 0 true hv177) ?_
        rcases v177 with _ | i155
        · rintro _ _ ⟨rfl, rfl⟩
          refine blockS_r ?_
          refine thenS_r ?_
          cases h
          exact ⟨[0], True, by kernel_rfl, trivial⟩
        · rintro _ _ ⟨rfl, rfl⟩
          refine blockS_y ?_
          refine thenS_n ?_
          refine W_seq ?_
          refine W_region ?_
          refine WO_step 2 [0] [4] True ⟨[(4, I i155)], [.row .nod x1 false]⟩ (by kernel_rfl) trivial ?_
          refine WO_nil rfl ?_
          refine thenS_n ?_
          refine W_ret ?_
          cases h
          exact ⟨[0], True, by kernel_rfl, trivial⟩

/- impl.EditsBetween -/
def impl_EditsBetween_L1 (x1 : List Nod) (x2 : List Nod) (x296 : List Int) : Nat → (List Edt) → Int → Option ((List Edt))
| 0, _, _ => none
| n + 1, x352, i353 =>
 iteO (decide (i353 < ((x296.length : Nat) : Int)))
 (guardO (0 ≤ i353 ∧ i353 < ((x296.length : Nat) : Int)) <|
 bindO (impl_PathText n x1 (x296.getD i353.toNat 0)) fun s432 =>
 bindO (impl_ResolvePath n x2 s432) fun i434 =>
 bindO (iteO (decide (i434 < 0))
 (guardO (0 ≤ (x296.getD i353.toNat 0) ∧ (x296.getD i353.toNat 0) < ((x1.length : Nat) : Int)) <|
 bindO (impl_PathText n x1 ((x1.getD ((x296.getD i353.toNat 0).toNat) dnod).parent)) fun s446 =>
 bindO (impl_ResolvePath n x2 s446) fun i448 =>
 some (decide (0 ≤ i448)))
 (some false)) fun b442 =>
 bindO (iteO b442
 (guardO (0 = 0 ∧ x352.length = x352.length ∧ x352.length + (([(⟨1, s432, 0⟩ : Edt)].drop 0).take ([(⟨1, s432, 0⟩ : Edt)].length)).length ≤ 1099511627776) <|
 some (x352 ++ (([(⟨1, s432, 0⟩ : Edt)].drop 0).take ([(⟨1, s432, 0⟩ : Edt)].length))))
 (some x352)) fun x452 =>
 impl_EditsBetween_L1 x1 x2 x296 n x452 (w64 (i353 + 1)))
 (some x352)

theorem impl_EditsBetween_L1_ok (w : World) (X : Nat → Prop) (θ : List Loc) (x1 : List Nod) (x2 : List Nod) (x296 : List Int) (x404 : (List Edt)) : ∀ (n : Nat) (x352 : List Edt) (i353 : Int), impl_EditsBetween_L1 x1 x2 x296 n x352 i353 = some x404 → WL EE ⟨w, X, θ, 93, 2⟩ (subC [1, 1, 1, 0, 1, 4, 4] (bodyC Try.f25)) (fun (e : Exit) (s : St) => e = .exit 0 ∧ s = ⟨[(0, .one (.e (.sl 0 0 x1.length))), (1, .one (.e (.sl 1 0 x2.length))), (5, .one (.e (.sl 2 0 x404.length)))], [.row .nod x1 false, .row .nod x2 false, .row .edt x404 true]⟩) ⟨[(0, .one (.e (.sl 0 0 x1.length))), (1, .one (.e (.sl 1 0 x2.length))), (5, .one (.e (.sl 2 0 x352.length))), (22, .one (.e (.sl 3 0 x296.length))), (23, I ((x296.length : Nat) : Int)), (24, I i353)], [.row .nod x1 false, .row .nod x2 false, .row .edt x352 true, .row .int x296 true]⟩ := by
  intro n
  induction n with
  | zero => intro _ _ h; exact none_e h
  | succ n ih =>
    intro x352 i353 h
    rw [impl_EditsBetween_L1] at h
    refine WL_round ?_
    refine W_seq ?_
    refine W_region ?_
    refine WO_step 1 [0, 1, 2, 3] [0, 1, 5, 22, 23, 24, 25] (True ∧ True) ⟨[(0, .one (.e (.sl 0 0 x1.length))), (1, .one (.e (.sl 1 0 x2.length))), (5, .one (.e (.sl 2 0 x352.length))), (22, .one (.e (.sl 3 0 x296.length))), (23, I ((x296.length : Nat) : Int)), (24, I i353), (25, B (decide (i353 < ((x296.length : Nat) : Int))))], [.row .nod x1 false, .row .nod x2 false, .row .edt x352 true, .row .int x296 true]⟩ (by kernel_rfl) ⟨trivial, trivial⟩ ?_
    refine WO_nil rfl ?_
    refine thenS_n ?_
    refine W_seq ?_
    refine iteO_e h (fun hb407 h => W_true rfl hb407 ?_) (fun hb407 h => W_false rfl hb407 ?_)
    · refine W_sub [0, 1, 2, 3] [0, 1, 5, 22, 23, 24] (st' := ⟨[(0, .one (.e (.sl 0 0 x1.length))), (1, .one (.e (.sl 1 0 x2.length))), (5, .one (.e (.sl 2 0 x352.length))), (22, .one (.e (.sl 3 0 x296.length))), (23, I ((x296.length : Nat) : Int)), (24, I i353)], [.row .nod x1 false, .row .nod x2 false, .row .edt x352 true, .row .int x296 true]⟩) (by kernel_rfl) ?_
      refine W_skip ?_
      refine thenS_n ?_
      refine W_seq ?_
      refine W_block ?_
      refine W_seq ?_
      refine W_region ?_
      refine guardO_e h (fun hg431 h => ?_)
      refine WO_step 3 [0, 1, 2, 3] [0, 1, 5, 7, 22, 23, 24] ((0 ≤ i353 ∧ i353 < ((x296.length : Nat) : Int)) ∧ (True ∧ True)) ⟨[(0, .one (.e (.sl 0 0 x1.length))), (1, .one (.e (.sl 1 0 x2.length))), (5, .one (.e (.sl 2 0 x352.length))), (7, I (x296.getD i353.toNat 0)), (22, .one (.e (.sl 3 0 x296.length))), (23, I ((x296.length : Nat) : Int)), (24, I i353)], [.row .nod x1 false, .row .nod x2 false, .row .edt x352 true, .row .int x296 true]⟩ (by kernel_rfl) ⟨hg431, trivial, trivial⟩ ?_
      refine WO_nil rfl ?_
      refine thenS_n ?_
      refine W_seq ?_
      refine W_region ?_
      refine WO_step 2 [0, 1, 2, 3] [0, 1, 5, 7, 22, 23, 24, 28, 29] True ⟨[(0, .one (.e (.sl 0 0 x1.length))), (1, .one (.e (.sl 1 0 x2.length))), (5, .one (.e (.sl 2 0 x352.length))), (7, I (x296.getD i353.toNat 0)), (22, .one (.e (.sl 3 0 x296.length))), (23, I ((x296.length : Nat) : Int)), (24, I i353), (28, .one (.e (.sl 0 0 x1.length))), (29, I (x296.getD i353.toNat 0))], [.row .nod x1 false, .row .nod x2 false, .row .edt x352 true, .row .int x296 true]⟩ (by kernel_rfl) trivial ?_
      refine bindO_e h (fun s432 hc433 h => ?_)
      refine WO_call [.ro 0] Try.f53 rfl rfl rfl (by kernel_rfl) Try.func53 rfl (by kernel_rfl) (impl_PathText_ok n x1 (x296.getD i353.toNat 0) s432 hc433) (And.intro (And.intro rfl rfl) (trivial)) rfl ?_
      refine WO_step 1 [0, 1, 2, 3] [0, 1, 5, 7, 8, 22, 23, 24] True ⟨[(0, .one (.e (.sl 0 0 x1.length))), (1, .one (.e (.sl 1 0 x2.length))), (5, .one (.e (.sl 2 0 x352.length))), (7, I (x296.getD i353.toNat 0)), (8, S s432), (22, .one (.e (.sl 3 0 x296.length))), (23, I ((x296.length : Nat) : Int)), (24, I i353)], [.row .nod x1 false, .row .nod x2 false, .row .edt x352 true, .row .int x296 true]⟩ (by kernel_rfl) trivial ?_
      refine WO_nil rfl ?_
      refine thenS_n ?_
      refine W_seq ?_
      refine W_region ?_
      refine WO_step 2 [0, 1, 2, 3] [0, 1, 5, 7, 8, 22, 23, 24, 31, 32] True ⟨[(0, .one (.e (.sl 0 0 x1.length))), (1, .one (.e (.sl 1 0 x2.length))), (5, .one (.e (.sl 2 0 x352.length))), (7, I (x296.getD i353.toNat 0)), (8, S s432), (22, .one (.e (.sl 3 0 x296.length))), (23, I ((x296.length : Nat) : Int)), (24, I i353), (31, .one (.e (.sl 1 0 x2.length))), (32, S s432)], [.row .nod x1 false, .row .nod x2 false, .row .edt x352 true, .row .int x296 true]⟩ (by kernel_rfl) trivial ?_
      refine bindO_e h (fun i434 hc435 h => ?_)
      refine WO_call [.ro 1] Try.f14 rfl rfl rfl (by kernel_rfl) Try.func14 rfl (by kernel_rfl) (impl_ResolvePath_ok n x2 s432 i434 hc435) (And.intro (And.intro rfl rfl) (trivial)) rfl ?_
      refine WO_step 2 [0, 1, 2, 3] [0, 1, 5, 7, 8, 22, 23, 24, 35] (True ∧ True) ⟨[(0, .one (.e (.sl 0 0 x1.length))), (1, .one (.e (.sl 1 0 x2.length))), (5, .one (.e (.sl 2 0 x352.length))), (7, I (x296.getD i353.toNat 0)), (8, S s432), (22, .one (.e (.sl 3 0 x296.length))), (23, I ((x296.length : Nat) : Int)), (24, I i353), (35, B (decide (i434 < 0)))], [.row .nod x1 false, .row .nod x2 false, .row .edt x352 true, .row .int x296 true]⟩ (by kernel_rfl) ⟨trivial, trivial⟩ ?_
      refine bindO_e h (fun b442 hv443 h => ?_)
      refine WO_thru ⟨[(0, .one (.e (.sl 0 0 x1.length))), (1, .one (.e (.sl 1 0 x2.length))), (5, .one (.e (.sl 2 0 x352.length))), (8, S s432), (22, .one (.e (.sl 3 0 x296.length))), (23, I ((x296.length : Nat) : Int)), (24, I i353), (46, B b442)], [.row .nod x1 false, .row .nod x2 false, .row .edt x352 true, .row .int x296 true]⟩ ?_ ?_
      · refine iteO_e hv443 (fun hb444 hv443 => WO_known 35 true rfl hb444 ?_) (fun hb444 hv443 => WO_known 35 false rfl hb444 ?_)
        · refine guardO_e hv443 (fun hg445 hv443 => ?_)
          refine WO_step 7 [0, 1, 2, 3] [0, 1, 5, 8, 22, 23, 24, 35, 36, 37, 42] ((0 ≤ (x296.getD i353.toNat 0) ∧ (x296.getD i353.toNat 0) < ((x1.length : Nat) : Int)) ∧ (True ∧ True)) ⟨[(0, .one (.e (.sl 0 0 x1.length))), (1, .one (.e (.sl 1 0 x2.length))), (5, .one (.e (.sl 2 0 x352.length))), (8, S s432), (22, .one (.e (.sl 3 0 x296.length))), (23, I ((x296.length : Nat) : Int)), (24, I i353), (35, B true), (36, .one (.e (.sl 1 0 x2.length))), (37, .one (.e (.sl 0 0 x1.length))), (42, I ((x1.getD ((x296.getD i353.toNat 0).toNat) dnod).parent))], [.row .nod x1 false, .row .nod x2 false, .row .edt x352 true, .row .int x296 true]⟩ (by kernel_rfl) ⟨hg445, trivial, trivial⟩ ?_
          refine bindO_e hv443 (fun s446 hc447 hv443 => ?_)
          refine WO_call [.ro 0] Try.f53 rfl rfl rfl (by kernel_rfl) Try.func53 rfl (by kernel_rfl) (impl_PathText_ok n x1 ((x1.getD ((x296.getD i353.toNat 0).toNat) dnod).parent) s446 hc447) (And.intro (And.intro rfl rfl) (trivial)) rfl ?_
          refine WO_sub [0, 1, 2, 3] [0, 1, 5, 8, 22, 23, 24, 35, 36, 43] (st' := ⟨[(0, .one (.e (.sl 0 0 x1.length))), (1, .one (.e (.sl 1 0 x2.length))), (5, .one (.e (.sl 2 0 x352.length))), (8, S s432), (22, .one (.e (.sl 3 0 x296.length))), (23, I ((x296.length : Nat) : Int)), (24, I i353), (35, B true), (36, .one (.e (.sl 1 0 x2.length))), (43, S s446)], [.row .nod x1 false, .row .nod x2 false, .row .edt x352 true, .row .int x296 true]⟩) (by kernel_rfl) ?_
          refine bindO_e hv443 (fun i448 hc449 hv443 => ?_)
          refine WO_call [.ro 1] Try.f14 rfl rfl rfl (by kernel_rfl) Try.func14 rfl (by kernel_rfl) (impl_ResolvePath_ok n x2 s446 i448 hc449) (And.intro (And.intro rfl rfl) (trivial)) rfl ?_
          refine WO_step 2 [0, 1, 2, 3] [0, 1, 5, 8, 22, 23, 24, 46] (True ∧ True) ⟨[(0, .one (.e (.sl 0 0 x1.length))), (1, .one (.e (.sl 1 0 x2.length))), (5, .one (.e (.sl 2 0 x352.length))), (8, S s432), (22, .one (.e (.sl 3 0 x296.length))), (23, I ((x296.length : Nat) : Int)), (24, I i353), (46, B (decide (0 ≤ i448)))], [.row .nod x1 false, .row .nod x2 false, .row .edt x352 true, .row .int x296 true]⟩ (by kernel_rfl) ⟨trivial, trivial⟩ ?_
          cases hv443
          exact WO_nil rfl ⟨rfl, rfl⟩
        · refine WO_step 11 [0, 1, 2, 3] [0, 1, 5, 8, 22, 23, 24, 46] True ⟨[(0, .one (.e (.sl 0 0 x1.length))), (1, .one (.e (.sl 1 0 x2.length))), (5, .one (.e (.sl 2 0 x352.length))), (8, S s432), (22, .one (.e (.sl 3 0 x296.length))), (23, I ((x296.length : Nat) : Int)), (24, I i353), (46, B false)], [.row .nod x1 false, .row .nod x2 false, .row .edt x352 true, .row .int x296 true]⟩ (by kernel_rfl) trivial ?_
          cases hv443
          exact WO_nil rfl ⟨rfl, rfl⟩
      · refine thenS_n ?_
        refine bindO_e h (fun x452 hx452 h => ?_)
        refine W_cut (Q' := fun (e : Exit) (s : St) => e = .normal ∧ s = ⟨[(0, .one (.e (.sl 0 0 x1.length))), (1, .one (.e (.sl 1 0 x2.length))), (5, .one (.e (.sl 2 0 x452.length))), (22, .one (.e (.sl 3 0 x296.length))), (23, I ((x296.length : Nat) : Int)), (24, I i353)], [.row .nod x1 false, .row .nod x2 false, .row .edt x452 true, .row .int x296 true]⟩) ?_ ?_
        · refine iteO_e hx452 (fun hb454 hx452 => W_true rfl hb454 ?_) (fun hb454 hx452 => W_false rfl hb454 ?_)
          · refine W_region ?_
            refine guardO_e hx452 (fun hg455 hx452 => ?_)
            refine WO_step 6 [0, 1, 5, 3] [0, 1, 5, 22, 23, 24] ((0 = 0 ∧ x352.length = x352.length ∧ x352.length + (([(⟨1, s432, 0⟩ : Edt)].drop 0).take ([(⟨1, s432, 0⟩ : Edt)].length)).length ≤ 1099511627776) ∧ True) ⟨[(0, .one (.e (.sl 0 0 x1.length))), (1, .one (.e (.sl 1 0 x2.length))), (5, .one (.e (.sl 2 0 ((x352 ++ (([(⟨1, s432, 0⟩ : Edt)].drop 0).take ([(⟨1, s432, 0⟩ : Edt)].length))).length)))), (22, .one (.e (.sl 3 0 x296.length))), (23, I ((x296.length : Nat) : Int)), (24, I i353)], [.row .nod x1 false, .row .nod x2 false, .row .edt (x352 ++ (([(⟨1, s432, 0⟩ : Edt)].drop 0).take ([(⟨1, s432, 0⟩ : Edt)].length))) true, .row .int x296 true]⟩ (by kernel_rfl) ⟨hg455, trivial⟩ ?_
            refine WO_nil rfl ?_
            cases hx452
            exact And.intro rfl rfl
          · refine W_sub [0, 1, 2, 3] [0, 1, 5, 22, 23, 24] (st' := ⟨[(0, .one (.e (.sl 0 0 x1.length))), (1, .one (.e (.sl 1 0 x2.length))), (5, .one (.e (.sl 2 0 x352.length))), (22, .one (.e (.sl 3 0 x296.length))), (23, I ((x296.length : Nat) : Int)), (24, I i353)], [.row .nod x1 false, .row .nod x2 false, .row .edt x352 true, .row .int x296 true]⟩) (by kernel_rfl) ?_
            refine W_skip ?_
            cases hx452
            exact And.intro rfl rfl
        · rintro _ _ ⟨rfl, rfl⟩
          refine blockS_n ?_
          refine thenS_n ?_
          refine W_region ?_
          refine WO_step 2 [0, 1, 2, 3] [0, 1, 5, 22, 23, 24] (True ∧ True) ⟨[(0, .one (.e (.sl 0 0 x1.length))), (1, .one (.e (.sl 1 0 x2.length))), (5, .one (.e (.sl 2 0 x452.length))), (22, .one (.e (.sl 3 0 x296.length))), (23, I ((x296.length : Nat) : Int)), (24, I (w64 (i353 + 1)))], [.row .nod x1 false, .row .nod x2 false, .row .edt x452 true, .row .int x296 true]⟩ (by kernel_rfl) ⟨trivial, trivial⟩ ?_
          refine WO_nil rfl ?_
          refine thenS_n ?_
          exact ih _ _ h
    · refine W_sub [0, 1, 2] [0, 1, 5] (st' := ⟨[(0, .one (.e (.sl 0 0 x1.length))), (1, .one (.e (.sl 1 0 x2.length))), (5, .one (.e (.sl 2 0 x352.length)))], [.row .nod x1 false, .row .nod x2 false, .row .edt x352 true]⟩) (by kernel_rfl) ?_
      refine W_exit ?_
      refine thenS_e ?_
      refine thenS_e ?_
      cases h
      exact And.intro rfl rfl

def impl_EditsBetween_L2 (x1 : List Nod) (x2 : List Nod) (x457 : List Int) : Nat → (List Edt) → Int → Option ((List Edt))
| 0, _, _ => none
| n + 1, x497, i498 =>
 iteO (decide (i498 < ((x457.length : Nat) : Int)))
 (guardO (0 ≤ i498 ∧ i498 < ((x457.length : Nat) : Int)) <|
 bindO (impl_PathText n x2 (x457.getD i498.toNat 0)) fun s553 =>
 bindO (impl_ResolvePath n x1 s553) fun i555 =>
 bindO (iteO (decide (i555 < 0))
 (some true)
 (guardO (0 ≤ i555 ∧ i555 < ((x1.length : Nat) : Int)) <|
 guardO (0 ≤ (x457.getD i498.toNat 0) ∧ (x457.getD i498.toNat 0) < ((x2.length : Nat) : Int)) <|
 some (!decide (((x1.getD i555.toNat dnod).value) = ((x2.getD ((x457.getD i498.toNat 0).toNat) dnod).value))))) fun b560 =>
 bindO (iteO b560
 (guardO (0 ≤ (x457.getD i498.toNat 0) ∧ (x457.getD i498.toNat 0) < ((x2.length : Nat) : Int)) <|
 guardO (0 = 0 ∧ x497.length = x497.length ∧ x497.length + (([(⟨0, s553, (x2.getD ((x457.getD i498.toNat 0).toNat) dnod).value⟩ : Edt)].drop 0).take ([(⟨0, s553, (x2.getD ((x457.getD i498.toNat 0).toNat) dnod).value⟩ : Edt)].length)).length ≤ 1099511627776) <|
 some (x497 ++ (([(⟨0, s553, (x2.getD ((x457.getD i498.toNat 0).toNat) dnod).value⟩ : Edt)].drop 0).take ([(⟨0, s553, (x2.getD ((x457.getD i498.toNat 0).toNat) dnod).value⟩ : Edt)].length))))
 (some x497)) fun x565 =>
 impl_EditsBetween_L2 x1 x2 x457 n x565 (w64 (i498 + 1)))
 (some x497)

theorem impl_EditsBetween_L2_ok (w : World) (X : Nat → Prop) (θ : List Loc) (x1 : List Nod) (x2 : List Nod) (x457 : List Int) (x533 : (List Edt)) : ∀ (n : Nat) (x497 : List Edt) (i498 : Int), impl_EditsBetween_L2 x1 x2 x457 n x497 i498 = some x533 → WL EE ⟨w, X, θ, 93, 2⟩ (subC [1, 1, 1, 1, 0, 1, 4, 4] (bodyC Try.f25)) (fun (e : Exit) (s : St) => e = .exit 2 ∧ s = ⟨[(5, .one (.e (.sl 2 0 x533.length)))], [.row .nod x1 false, .row .nod x2 false, .row .edt x533 true]⟩) ⟨[(0, .one (.e (.sl 0 0 x1.length))), (1, .one (.e (.sl 1 0 x2.length))), (5, .one (.e (.sl 2 0 x497.length))), (54, .one (.e (.sl 3 0 x457.length))), (55, I ((x457.length : Nat) : Int)), (56, I i498)], [.row .nod x1 false, .row .nod x2 false, .row .edt x497 true, .row .int x457 true]⟩ := by
  intro n
  induction n with
  | zero => intro _ _ h; exact none_e h
  | succ n ih =>
    intro x497 i498 h
    rw [impl_EditsBetween_L2] at h
    refine WL_round ?_
    refine W_seq ?_
    refine W_region ?_
    refine WO_step 1 [0, 1, 2, 3] [0, 1, 5, 54, 55, 56, 57] (True ∧ True) ⟨[(0, .one (.e (.sl 0 0 x1.length))), (1, .one (.e (.sl 1 0 x2.length))), (5, .one (.e (.sl 2 0 x497.length))), (54, .one (.e (.sl 3 0 x457.length))), (55, I ((x457.length : Nat) : Int)), (56, I i498), (57, B (decide (i498 < ((x457.length : Nat) : Int))))], [.row .nod x1 false, .row .nod x2 false, .row .edt x497 true, .row .int x457 true]⟩ (by kernel_rfl) ⟨trivial, trivial⟩ ?_
    refine WO_nil rfl ?_
    refine thenS_n ?_
    refine W_seq ?_
    refine iteO_e h (fun hb536 h => W_true rfl hb536 ?_) (fun hb536 h => W_false rfl hb536 ?_)
    · refine W_sub [0, 1, 2, 3] [0, 1, 5, 54, 55, 56] (st' := ⟨[(0, .one (.e (.sl 0 0 x1.length))), (1, .one (.e (.sl 1 0 x2.length))), (5, .one (.e (.sl 2 0 x497.length))), (54, .one (.e (.sl 3 0 x457.length))), (55, I ((x457.length : Nat) : Int)), (56, I i498)], [.row .nod x1 false, .row .nod x2 false, .row .edt x497 true, .row .int x457 true]⟩) (by kernel_rfl) ?_
      refine W_skip ?_
      refine thenS_n ?_
      refine W_seq ?_
      refine W_block ?_
      refine W_seq ?_
      refine W_region ?_
      refine guardO_e h (fun hg552 h => ?_)
      refine WO_step 3 [0, 1, 2, 3] [0, 1, 5, 10, 54, 55, 56] ((0 ≤ i498 ∧ i498 < ((x457.length : Nat) : Int)) ∧ (True ∧ True)) ⟨[(0, .one (.e (.sl 0 0 x1.length))), (1, .one (.e (.sl 1 0 x2.length))), (5, .one (.e (.sl 2 0 x497.length))), (10, I (x457.getD i498.toNat 0)), (54, .one (.e (.sl 3 0 x457.length))), (55, I ((x457.length : Nat) : Int)), (56, I i498)], [.row .nod x1 false, .row .nod x2 false, .row .edt x497 true, .row .int x457 true]⟩ (by kernel_rfl) ⟨hg552, trivial, trivial⟩ ?_
      refine WO_nil rfl ?_
      refine thenS_n ?_
      refine W_seq ?_
      refine W_region ?_
      refine WO_step 2 [0, 1, 2, 3] [0, 1, 5, 10, 54, 55, 56, 60, 61] True ⟨[(0, .one (.e (.sl 0 0 x1.length))), (1, .one (.e (.sl 1 0 x2.length))), (5, .one (.e (.sl 2 0 x497.length))), (10, I (x457.getD i498.toNat 0)), (54, .one (.e (.sl 3 0 x457.length))), (55, I ((x457.length : Nat) : Int)), (56, I i498), (60, .one (.e (.sl 1 0 x2.length))), (61, I (x457.getD i498.toNat 0))], [.row .nod x1 false, .row .nod x2 false, .row .edt x497 true, .row .int x457 true]⟩ (by kernel_rfl) trivial ?_
      refine bindO_e h (fun s553 hc554 h => ?_)
      refine WO_call [.ro 1] Try.f53 rfl rfl rfl (by kernel_rfl) Try.func53 rfl (by kernel_rfl) (impl_PathText_ok n x2 (x457.getD i498.toNat 0) s553 hc554) (And.intro (And.intro rfl rfl) (trivial)) rfl ?_
      refine WO_step 1 [0, 1, 2, 3] [0, 1, 5, 10, 11, 54, 55, 56] True ⟨[(0, .one (.e (.sl 0 0 x1.length))), (1, .one (.e (.sl 1 0 x2.length))), (5, .one (.e (.sl 2 0 x497.length))), (10, I (x457.getD i498.toNat 0)), (11, S s553), (54, .one (.e (.sl 3 0 x457.length))), (55, I ((x457.length : Nat) : Int)), (56, I i498)], [.row .nod x1 false, .row .nod x2 false, .row .edt x497 true, .row .int x457 true]⟩ (by kernel_rfl) trivial ?_
      refine WO_nil rfl ?_
      refine thenS_n ?_
      refine W_seq ?_
      refine W_region ?_
      refine WO_step 2 [0, 1, 2, 3] [0, 1, 5, 10, 11, 54, 55, 56, 63, 64] True ⟨[(0, .one (.e (.sl 0 0 x1.length))), (1, .one (.e (.sl 1 0 x2.length))), (5, .one (.e (.sl 2 0 x497.length))), (10, I (x457.getD i498.toNat 0)), (11, S s553), (54, .one (.e (.sl 3 0 x457.length))), (55, I ((x457.length : Nat) : Int)), (56, I i498), (63, .one (.e (.sl 0 0 x1.length))), (64, S s553)], [.row .nod x1 false, .row .nod x2 false, .row .edt x497 true, .row .int x457 true]⟩ (by kernel_rfl) trivial ?_
      refine bindO_e h (fun i555 hc556 h => ?_)
      refine WO_call [.ro 0] Try.f14 rfl rfl rfl (by kernel_rfl) Try.func14 rfl (by kernel_rfl) (impl_ResolvePath_ok n x1 s553 i555 hc556) (And.intro (And.intro rfl rfl) (trivial)) rfl ?_
      refine WO_step 1 [0, 1, 2, 3] [0, 1, 5, 10, 11, 12, 54, 55, 56] True ⟨[(0, .one (.e (.sl 0 0 x1.length))), (1, .one (.e (.sl 1 0 x2.length))), (5, .one (.e (.sl 2 0 x497.length))), (10, I (x457.getD i498.toNat 0)), (11, S s553), (12, I i555), (54, .one (.e (.sl 3 0 x457.length))), (55, I ((x457.length : Nat) : Int)), (56, I i498)], [.row .nod x1 false, .row .nod x2 false, .row .edt x497 true, .row .int x457 true]⟩ (by kernel_rfl) trivial ?_
      refine WO_nil rfl ?_
      refine thenS_n ?_
      refine W_seq ?_
      refine bindO_e h (fun b560 hv561 h => ?_)
      refine W_cut (Q' := fun (e : Exit) (s : St) => e = .normal ∧ s = ⟨[(0, .one (.e (.sl 0 0 x1.length))), (1, .one (.e (.sl 1 0 x2.length))), (5, .one (.e (.sl 2 0 x497.length))), (10, I (x457.getD i498.toNat 0)), (11, S s553), (54, .one (.e (.sl 3 0 x457.length))), (55, I ((x457.length : Nat) : Int)), (56, I i498), (80, B b560)], [.row .nod x1 false, .row .nod x2 false, .row .edt x497 true, .row .int x457 true]⟩) ?_ ?_
      · refine iteO_e hv561 (fun hb557 hv561 => ?_) (fun hb557 hv561 => ?_)
        · refine W_draw [] true (by kernel_rfl) (by kernel_rfl) ?_
          refine WD_takeK [0, 1, 2] [0, 1, 5, 10, 11, 12, 54, 55, 56, 68] [0, 1, 5, 10, 11, 12, 54, 55, 56, 68] (φ := (True ∧ True ∧ True)) (ls' := #[true, true, true, false, false, false, false, false, false, false, false, false, false, false, false]) (Ts' := [(0, .one (.e (.sl 0 0 x1.length))), (1, .one (.e (.sl 1 0 x2.length))), (5, .one (.e (.sl 2 0 x497.length))), (10, I (x457.getD i498.toNat 0)), (11, S s553), (12, I i555), (54, .one (.e (.sl 3 0 x457.length))), (55, I ((x457.length : Nat) : Int)), (56, I i498), (68, B (decide (i555 < 0)))]) (st' := ⟨[(0, .one (.e (.sl 0 0 x1.length))), (1, .one (.e (.sl 1 0 x2.length))), (5, .one (.e (.sl 2 0 x497.length))), (10, I (x457.getD i498.toNat 0)), (11, S s553), (12, I i555), (54, .one (.e (.sl 3 0 x457.length))), (55, I ((x457.length : Nat) : Int)), (56, I i498), (68, B (decide (i555 < 0)))], [.row .nod x1 false, .row .nod x2 false, .row .edt x497 true, .row .int x457 true]⟩) (n2 := 12) (by kernel_rfl) ⟨trivial, trivial, trivial⟩ rfl ?_
          refine WD_known 68 true rfl rfl hb557 ?_
          refine WD_takeK [3, 4, 5, 6, 7, 8, 9, 10, 11, 12, 13, 14] [0, 1, 5, 10, 11, 54, 55, 56, 80] [0, 1, 5, 10, 11, 54, 55, 56, 80] (φ := True) (ls' := #[true, true, true, true, true, true, true, true, true, true, true, true, true, true, true]) (Ts' := [(0, .one (.e (.sl 0 0 x1.length))), (1, .one (.e (.sl 1 0 x2.length))), (5, .one (.e (.sl 2 0 x497.length))), (10, I (x457.getD i498.toNat 0)), (11, S s553), (54, .one (.e (.sl 3 0 x457.length))), (55, I ((x457.length : Nat) : Int)), (56, I i498), (80, B true)]) (st' := ⟨[(0, .one (.e (.sl 0 0 x1.length))), (1, .one (.e (.sl 1 0 x2.length))), (5, .one (.e (.sl 2 0 x497.length))), (10, I (x457.getD i498.toNat 0)), (11, S s553), (54, .one (.e (.sl 3 0 x457.length))), (55, I ((x457.length : Nat) : Int)), (56, I i498), (80, B true)], [.row .nod x1 false, .row .nod x2 false, .row .edt x497 true, .row .int x457 true]⟩) (n2 := 0) (by kernel_rfl) trivial rfl ?_
          exact WD_done [0, 1, 2, 3] [0, 1, 5, 10, 11, 54, 55, 56, 80] (st' := ⟨[(0, .one (.e (.sl 0 0 x1.length))), (1, .one (.e (.sl 1 0 x2.length))), (5, .one (.e (.sl 2 0 x497.length))), (10, I (x457.getD i498.toNat 0)), (11, S s553), (54, .one (.e (.sl 3 0 x457.length))), (55, I ((x457.length : Nat) : Int)), (56, I i498), (80, B true)], [.row .nod x1 false, .row .nod x2 false, .row .edt x497 true, .row .int x457 true]⟩) (by kernel_rfl) (by kernel_rfl) (And.intro rfl (by cases hv561; rfl))
        · refine guardO_e hv561 (fun hg558 hv561 => ?_)
          refine guardO_e hv561 (fun hg559 hv561 => ?_)
          refine W_draw [] true (by kernel_rfl) (by kernel_rfl) ?_
          refine WD_takeK [0, 1, 2] [0, 1, 5, 10, 11, 12, 54, 55, 56, 68] [0, 1, 5, 10, 11, 12, 54, 55, 56, 68] (φ := (True ∧ True ∧ True)) (ls' := #[true, true, true, false, false, false, false, false, false, false, false, false, false, false, false]) (Ts' := [(0, .one (.e (.sl 0 0 x1.length))), (1, .one (.e (.sl 1 0 x2.length))), (5, .one (.e (.sl 2 0 x497.length))), (10, I (x457.getD i498.toNat 0)), (11, S s553), (12, I i555), (54, .one (.e (.sl 3 0 x457.length))), (55, I ((x457.length : Nat) : Int)), (56, I i498), (68, B (decide (i555 < 0)))]) (st' := ⟨[(0, .one (.e (.sl 0 0 x1.length))), (1, .one (.e (.sl 1 0 x2.length))), (5, .one (.e (.sl 2 0 x497.length))), (10, I (x457.getD i498.toNat 0)), (11, S s553), (12, I i555), (54, .one (.e (.sl 3 0 x457.length))), (55, I ((x457.length : Nat) : Int)), (56, I i498), (68, B (decide (i555 < 0)))], [.row .nod x1 false, .row .nod x2 false, .row .edt x497 true, .row .int x457 true]⟩) (n2 := 12) (by kernel_rfl) ⟨trivial, trivial, trivial⟩ rfl ?_
          refine WD_known 68 false rfl rfl hb557 ?_
          refine WD_takeK [3, 4, 5, 6, 7, 8, 9, 10, 11, 12, 13, 14] [0, 1, 5, 10, 11, 54, 55, 56, 80] [0, 1, 5, 10, 11, 54, 55, 56, 80] (φ := ((0 ≤ i555 ∧ i555 < ((x1.length : Nat) : Int)) ∧ (0 ≤ i555 ∧ i555 < ((x1.length : Nat) : Int)) ∧ (True ∧ True ∧ ((0 ≤ (x457.getD i498.toNat 0) ∧ (x457.getD i498.toNat 0) < ((x2.length : Nat) : Int)) ∧ (0 ≤ (x457.getD i498.toNat 0) ∧ (x457.getD i498.toNat 0) < ((x2.length : Nat) : Int)) ∧ (True ∧ True ∧ (True ∧ True ∧ True)))))) (ls' := #[true, true, true, true, true, true, true, true, true, true, true, true, true, true, true]) (Ts' := [(0, .one (.e (.sl 0 0 x1.length))), (1, .one (.e (.sl 1 0 x2.length))), (5, .one (.e (.sl 2 0 x497.length))), (10, I (x457.getD i498.toNat 0)), (11, S s553), (54, .one (.e (.sl 3 0 x457.length))), (55, I ((x457.length : Nat) : Int)), (56, I i498), (80, B (!decide (((x1.getD i555.toNat dnod).value) = ((x2.getD ((x457.getD i498.toNat 0).toNat) dnod).value))))]) (st' := ⟨[(0, .one (.e (.sl 0 0 x1.length))), (1, .one (.e (.sl 1 0 x2.length))), (5, .one (.e (.sl 2 0 x497.length))), (10, I (x457.getD i498.toNat 0)), (11, S s553), (54, .one (.e (.sl 3 0 x457.length))), (55, I ((x457.length : Nat) : Int)), (56, I i498), (80, B (!decide (((x1.getD i555.toNat dnod).value) = ((x2.getD ((x457.getD i498.toNat 0).toNat) dnod).value))))], [.row .nod x1 false, .row .nod x2 false, .row .edt x497 true, .row .int x457 true]⟩) (n2 := 0) (by kernel_rfl) ⟨hg558, hg558, trivial, trivial, hg559, hg559, trivial, trivial, trivial, trivial, trivial⟩ rfl ?_
          exact WD_done [0, 1, 2, 3] [0, 1, 5, 10, 11, 54, 55, 56, 80] (st' := ⟨[(0, .one (.e (.sl 0 0 x1.length))), (1, .one (.e (.sl 1 0 x2.length))), (5, .one (.e (.sl 2 0 x497.length))), (10, I (x457.getD i498.toNat 0)), (11, S s553), (54, .one (.e (.sl 3 0 x457.length))), (55, I ((x457.length : Nat) : Int)), (56, I i498), (80, B (!decide (((x1.getD i555.toNat dnod).value) = ((x2.getD ((x457.getD i498.toNat 0).toNat) dnod).value))))], [.row .nod x1 false, .row .nod x2 false, .row .edt x497 true, .row .int x457 true]⟩) (by kernel_rfl) (by kernel_rfl) (And.intro rfl (by cases hv561; rfl))
      · rintro _ _ ⟨rfl, rfl⟩
        refine thenS_n ?_
        refine bindO_e h (fun x565 hx565 h => ?_)
        refine W_cut (Q' := fun (e : Exit) (s : St) => e = .normal ∧ s = ⟨[(0, .one (.e (.sl 0 0 x1.length))), (1, .one (.e (.sl 1 0 x2.length))), (5, .one (.e (.sl 2 0 x565.length))), (54, .one (.e (.sl 3 0 x457.length))), (55, I ((x457.length : Nat) : Int)), (56, I i498)], [.row .nod x1 false, .row .nod x2 false, .row .edt x565 true, .row .int x457 true]⟩) ?_ ?_
        · refine iteO_e hx565 (fun hb567 hx565 => W_true rfl hb567 ?_) (fun hb567 hx565 => W_false rfl hb567 ?_)
          · refine W_region ?_
            refine guardO_e hx565 (fun hg568 hx565 => ?_)
            refine guardO_e hx565 (fun hg569 hx565 => ?_)
            refine WO_step 11 [0, 1, 5, 3] [0, 1, 5, 54, 55, 56] ((0 ≤ (x457.getD i498.toNat 0) ∧ (x457.getD i498.toNat 0) < ((x2.length : Nat) : Int)) ∧ (True ∧ ((0 = 0 ∧ x497.length = x497.length ∧ x497.length + (([(⟨0, s553, (x2.getD ((x457.getD i498.toNat 0).toNat) dnod).value⟩ : Edt)].drop 0).take ([(⟨0, s553, (x2.getD ((x457.getD i498.toNat 0).toNat) dnod).value⟩ : Edt)].length)).length ≤ 1099511627776) ∧ True))) ⟨[(0, .one (.e (.sl 0 0 x1.length))), (1, .one (.e (.sl 1 0 x2.length))), (5, .one (.e (.sl 2 0 ((x497 ++ (([(⟨0, s553, (x2.getD ((x457.getD i498.toNat 0).toNat) dnod).value⟩ : Edt)].drop 0).take ([(⟨0, s553, (x2.getD ((x457.getD i498.toNat 0).toNat) dnod).value⟩ : Edt)].length))).length)))), (54, .one (.e (.sl 3 0 x457.length))), (55, I ((x457.length : Nat) : Int)), (56, I i498)], [.row .nod x1 false, .row .nod x2 false, .row .edt (x497 ++ (([(⟨0, s553, (x2.getD ((x457.getD i498.toNat 0).toNat) dnod).value⟩ : Edt)].drop 0).take ([(⟨0, s553, (x2.getD ((x457.getD i498.toNat 0).toNat) dnod).value⟩ : Edt)].length))) true, .row .int x457 true]⟩ (by kernel_rfl) ⟨hg568, trivial, hg569, trivial⟩ ?_
            refine WO_nil rfl ?_
            cases hx565
            exact And.intro rfl rfl
          · refine W_sub [0, 1, 2, 3] [0, 1, 5, 54, 55, 56] (st' := ⟨[(0, .one (.e (.sl 0 0 x1.length))), (1, .one (.e (.sl 1 0 x2.length))), (5, .one (.e (.sl 2 0 x497.length))), (54, .one (.e (.sl 3 0 x457.length))), (55, I ((x457.length : Nat) : Int)), (56, I i498)], [.row .nod x1 false, .row .nod x2 false, .row .edt x497 true, .row .int x457 true]⟩) (by kernel_rfl) ?_
            refine W_skip ?_
            cases hx565
            exact And.intro rfl rfl
        · rintro _ _ ⟨rfl, rfl⟩
          refine blockS_n ?_
          refine thenS_n ?_
          refine W_region ?_
          refine WO_step 2 [0, 1, 2, 3] [0, 1, 5, 54, 55, 56] (True ∧ True) ⟨[(0, .one (.e (.sl 0 0 x1.length))), (1, .one (.e (.sl 1 0 x2.length))), (5, .one (.e (.sl 2 0 x565.length))), (54, .one (.e (.sl 3 0 x457.length))), (55, I ((x457.length : Nat) : Int)), (56, I (w64 (i498 + 1)))], [.row .nod x1 false, .row .nod x2 false, .row .edt x565 true, .row .int x457 true]⟩ (by kernel_rfl) ⟨trivial, trivial⟩ ?_
          refine WO_nil rfl ?_
          refine thenS_n ?_
          exact ih _ _ h
    · refine W_sub [0, 1, 2] [5] (st' := ⟨[(5, .one (.e (.sl 2 0 x497.length)))], [.row .nod x1 false, .row .nod x2 false, .row .edt x497 true]⟩) (by kernel_rfl) ?_
      refine W_exit ?_
      refine thenS_e ?_
      refine thenS_e ?_
      cases h
      exact And.intro rfl rfl

def impl_EditsBetween (n : Nat) (x1 : List Nod) (x2 : List Nod) : Option ((List Edt)) :=
 bindO (impl_ValidTree n x1) fun b284 =>
 bindO (iteO (!b284)
 (some true)
 (bindO (impl_ValidTree n x2) fun b292 =>
 some (!b292))) fun b289 =>
 iteO b289
 (some ([] : List Edt))
 (bindO (impl_WalkNodes n x1 0) fun x296 =>
 bindO (impl_EditsBetween_L1 x1 x2 x296 n ([] : List Edt) 0) fun x404 =>
 bindO (impl_WalkNodes n x2 0) fun x457 =>
 bindO (impl_EditsBetween_L2 x1 x2 x457 n x404 0) fun x533 =>
 some x533)

theorem impl_EditsBetween_ok (n : Nat) (x1 : List Nod) (x2 : List Nod) (x283 : List Edt) (h : impl_EditsBetween n x1 x2 = some x283) : FOk EE 25 [.one (.e (.sl 0 0 x1.length)), .one (.e (.sl 1 0 x2.length))] [.row .nod x1 false, .row .nod x2 false] (.one (.e (.sl 2 0 x283.length))) [.row .nod x1 false, .row .nod x2 false, .row .edt x283 true] := by
  unfold impl_EditsBetween at h
  refine FOk_of_W 93 2 Try.func25 rfl rfl (Nat.le_of_ble_eq_true rfl) rfl (fun w X θ => ?_)
  refine W_seq ?_
  refine W_region ?_
  refine WO_step 1 [0, 1] [0, 1] True ⟨[(0, .one (.e (.sl 0 0 x1.length))), (1, .one (.e (.sl 1 0 x2.length)))], [.row .nod x1 false, .row .nod x2 false]⟩ (by kernel_rfl) trivial ?_
  refine WO_nil rfl ?_
  refine thenS_n ?_
  refine W_seq ?_
  refine W_seq ?_
  refine W_region ?_
  refine WO_step 1 [0, 1] [0, 1, 13] True ⟨[(0, .one (.e (.sl 0 0 x1.length))), (1, .one (.e (.sl 1 0 x2.length))), (13, .one (.e (.sl 0 0 x1.length)))], [.row .nod x1 false, .row .nod x2 false]⟩ (by kernel_rfl) trivial ?_
  refine bindO_e h (fun b284 hc285 h => ?_)
  refine WO_call [.ro 0] Try.f13 rfl rfl rfl (by kernel_rfl) Try.func13 rfl (by kernel_rfl) (impl_ValidTree_ok n x1 b284 hc285) (And.intro (And.intro rfl rfl) (trivial)) rfl ?_
  refine WO_step 2 [0, 1] [0, 1, 16] True ⟨[(0, .one (.e (.sl 0 0 x1.length))), (1, .one (.e (.sl 1 0 x2.length))), (16, B (!b284))], [.row .nod x1 false, .row .nod x2 false]⟩ (by kernel_rfl) trivial ?_
  refine bindO_e h (fun b289 hv290 h => ?_)
  refine WO_thru ⟨[(0, .one (.e (.sl 0 0 x1.length))), (1, .one (.e (.sl 1 0 x2.length))), (20, B b289)], [.row .nod x1 false, .row .nod x2 false]⟩ ?_ ?_
  · refine iteO_e hv290 (fun hb291 hv290 => WO_known 16 true rfl hb291 ?_) (fun hb291 hv290 => WO_known 16 false rfl hb291 ?_)
    · refine WO_step 4 [0, 1] [0, 1, 20] True ⟨[(0, .one (.e (.sl 0 0 x1.length))), (1, .one (.e (.sl 1 0 x2.length))), (20, B true)], [.row .nod x1 false, .row .nod x2 false]⟩ (by kernel_rfl) trivial ?_
      cases hv290
      exact WO_nil rfl ⟨rfl, rfl⟩
    · refine WO_step 1 [0, 1] [0, 1, 16, 17] True ⟨[(0, .one (.e (.sl 0 0 x1.length))), (1, .one (.e (.sl 1 0 x2.length))), (16, B false), (17, .one (.e (.sl 1 0 x2.length)))], [.row .nod x1 false, .row .nod x2 false]⟩ (by kernel_rfl) trivial ?_
      refine bindO_e hv290 (fun b292 hc293 hv290 => ?_)
      refine WO_call [.ro 1] Try.f13 rfl rfl rfl (by kernel_rfl) Try.func13 rfl (by kernel_rfl) (impl_ValidTree_ok n x2 b292 hc293) (And.intro (And.intro rfl rfl) (trivial)) rfl ?_
      refine WO_step 2 [0, 1] [0, 1, 20] True ⟨[(0, .one (.e (.sl 0 0 x1.length))), (1, .one (.e (.sl 1 0 x2.length))), (20, B (!b292))], [.row .nod x1 false, .row .nod x2 false]⟩ (by kernel_rfl) trivial ?_
      cases hv290
      exact WO_nil rfl ⟨rfl, rfl⟩
  · refine thenS_n ?_
    refine iteO_e h (fun hb295 h => W_true rfl hb295 ?_) (fun hb295 h => W_false rfl hb295 ?_)
    · refine W_seq ?_
      refine W_region ?_
      refine WO_step 1 [0, 1] [4] True ⟨[(4, .one (.e (.nsl)))], [.row .nod x1 false, .row .nod x2 false]⟩ (by kernel_rfl) trivial ?_
      refine WO_nilrow 4 .edt rfl ?_
      refine WO_sub [0, 1, 2] [4] (st' := ⟨[(4, .one (.e (.sl 2 0 (([] : List Edt).length))))], [.row .nod x1 false, .row .nod x2 false, .row .edt ([] : List Edt) true]⟩) (by kernel_rfl) ?_
      refine WO_nil rfl ?_
      refine thenS_n ?_
      refine W_ret ?_
      refine thenS_r ?_
      cases h
      exact ⟨[0, 1, 2], True, by kernel_rfl, trivial⟩
    · refine W_sub [0, 1] [0, 1] (st' := ⟨[(0, .one (.e (.sl 0 0 x1.length))), (1, .one (.e (.sl 1 0 x2.length)))], [.row .nod x1 false, .row .nod x2 false]⟩) (by kernel_rfl) ?_
      refine W_skip ?_
      refine thenS_n ?_
      refine W_seq ?_
      refine W_region ?_
      refine WO_step 1 [0, 1] [0, 1, 5] True ⟨[(0, .one (.e (.sl 0 0 x1.length))), (1, .one (.e (.sl 1 0 x2.length))), (5, .one (.e (.nsl)))], [.row .nod x1 false, .row .nod x2 false]⟩ (by kernel_rfl) trivial ?_
      refine WO_nilrow 5 .edt rfl ?_
      refine WO_sub [0, 1, 2] [0, 1, 5] (st' := ⟨[(0, .one (.e (.sl 0 0 x1.length))), (1, .one (.e (.sl 1 0 x2.length))), (5, .one (.e (.sl 2 0 (([] : List Edt).length))))], [.row .nod x1 false, .row .nod x2 false, .row .edt ([] : List Edt) true]⟩) (by kernel_rfl) ?_
      refine WO_nil rfl ?_
      refine thenS_n ?_
      refine W_seq ?_
      refine W_seq ?_
      refine W_region ?_
      refine WO_step 1 [0, 1, 2] [0, 1, 5, 21] True ⟨[(0, .one (.e (.sl 0 0 x1.length))), (1, .one (.e (.sl 1 0 x2.length))), (5, .one (.e (.sl 2 0 (([] : List Edt).length)))), (21, .one (.e (.sl 0 0 x1.length)))], [.row .nod x1 false, .row .nod x2 false, .row .edt ([] : List Edt) true]⟩ (by kernel_rfl) trivial ?_
      refine bindO_e h (fun x296 hc297 h => ?_)
      refine WO_call [.ro 0] Try.f52 rfl rfl rfl (by kernel_rfl) Try.func52 rfl (by kernel_rfl) (impl_WalkNodes_ok n x1 0 x296 hc297) (And.intro (And.intro rfl rfl) (trivial)) rfl ?_
      refine WO_step 2 [0, 1, 2, 3] [0, 1, 5, 22, 23, 24] (True ∧ True) ⟨[(0, .one (.e (.sl 0 0 x1.length))), (1, .one (.e (.sl 1 0 x2.length))), (5, .one (.e (.sl 2 0 (([] : List Edt).length)))), (22, .one (.e (.sl 3 0 x296.length))), (23, I ((x296.length : Nat) : Int)), (24, I 0)], [.row .nod x1 false, .row .nod x2 false, .row .edt ([] : List Edt) true, .row .int x296 true]⟩ (by kernel_rfl) ⟨trivial, trivial⟩ ?_
      refine WO_nil rfl ?_
      refine thenS_n ?_
      refine W_block ?_
      refine W_loop ?_
      refine bindO_e h (fun x404 hx404 h => ?_)
      refine WL_cut (impl_EditsBetween_L1_ok w X θ x1 x2 x296 x404 n ([] : List Edt) 0 hx404) ?_
      rintro _ _ ⟨rfl, rfl⟩
      refine blockS_y ?_
      refine thenS_n ?_
      refine W_seq ?_
      refine W_seq ?_
      refine W_region ?_
      refine WO_step 1 [0, 1, 2] [0, 1, 5, 53] True ⟨[(0, .one (.e (.sl 0 0 x1.length))), (1, .one (.e (.sl 1 0 x2.length))), (5, .one (.e (.sl 2 0 x404.length))), (53, .one (.e (.sl 1 0 x2.length)))], [.row .nod x1 false, .row .nod x2 false, .row .edt x404 true]⟩ (by kernel_rfl) trivial ?_
      refine bindO_e h (fun x457 hc458 h => ?_)
      refine WO_call [.ro 1] Try.f52 rfl rfl rfl (by kernel_rfl) Try.func52 rfl (by kernel_rfl) (impl_WalkNodes_ok n x2 0 x457 hc458) (And.intro (And.intro rfl rfl) (trivial)) rfl ?_
      refine WO_step 2 [0, 1, 2, 3] [0, 1, 5, 54, 55, 56] (True ∧ True) ⟨[(0, .one (.e (.sl 0 0 x1.length))), (1, .one (.e (.sl 1 0 x2.length))), (5, .one (.e (.sl 2 0 x404.length))), (54, .one (.e (.sl 3 0 x457.length))), (55, I ((x457.length : Nat) : Int)), (56, I 0)], [.row .nod x1 false, .row .nod x2 false, .row .edt x404 true, .row .int x457 true]⟩ (by kernel_rfl) ⟨trivial, trivial⟩ ?_
      refine WO_nil rfl ?_
      refine thenS_n ?_
      refine W_block ?_
      refine W_loop ?_
      refine bindO_e h (fun x533 hx533 h => ?_)
      refine WL_cut (impl_EditsBetween_L2_ok w X θ x1 x2 x457 x533 n x404 0 hx533) ?_
      rintro _ _ ⟨rfl, rfl⟩
      refine blockS_y ?_
      refine thenS_n ?_
      refine W_seq ?_
      refine W_region ?_
      refine WO_step 2 [0, 1, 2] [4] True ⟨[(4, .one (.e (.sl 2 0 x533.length)))], [.row .nod x1 false, .row .nod x2 false, .row .edt x533 true]⟩ (by kernel_rfl) trivial ?_
      refine WO_nil rfl ?_
      refine thenS_n ?_
      refine W_ret ?_
      cases h
      exact ⟨[0, 1, 2], True, by kernel_rfl, trivial⟩

/- spec.kids -/
def spec_kids_L1 (x1 : List Nod) (i2 : Int) : Nat → (List Int) → Int → Option ((List Int))
| 0, _, _ => none
| n + 1, x68, i69 =>
 iteO (decide (i69 < ((x1.length : Nat) : Int)))
 (guardO (0 ≤ i69 ∧ i69 < ((x1.length : Nat) : Int)) <|
 bindO (iteO (decide (((x1.getD i69.toNat dnod).parent) = i2))
 (guardO (0 = 0 ∧ x68.length = x68.length ∧ x68.length + (([i69].drop 0).take ([i69].length)).length ≤ 1099511627776) <|
 some (x68 ++ (([i69].drop 0).take ([i69].length))))
 (some x68)) fun x96 =>
 spec_kids_L1 x1 i2 n x96 (w64 (i69 + 1)))
 (some x68)

theorem spec_kids_L1_ok (w : World) (X : Nat → Prop) (θ : List Loc) (x1 : List Nod) (i2 : Int) (x84 : (List Int)) : ∀ (n : Nat) (x68 : List Int) (i69 : Int), spec_kids_L1 x1 i2 n x68 i69 = some x84 → WL EE ⟨w, X, θ, 26, 1⟩ (subC [1, 1, 0, 1, 4, 4] (bodyC Try.f77)) (fun (e : Exit) (s : St) => e = .exit 0 ∧ s = ⟨[(5, .one (.e (.sl 1 0 x84.length)))], [.row .nod x1 false, .row .int x84 true]⟩) ⟨[(0, .one (.e (.sl 0 0 x1.length))), (1, I i2), (5, .one (.e (.sl 1 0 x68.length))), (6, I i69)], [.row .nod x1 false, .row .int x68 true]⟩ := by
  intro n
  induction n with
  | zero => intro _ _ h; exact none_e h
  | succ n ih =>
    intro x68 i69 h
    rw [spec_kids_L1] at h
    refine WL_round ?_
    refine W_seq ?_
    refine W_seq ?_
    refine W_region ?_
    refine WO_step 4 [0, 1] [0, 1, 5, 6, 11] (True ∧ (True ∧ True)) ⟨[(0, .one (.e (.sl 0 0 x1.length))), (1, I i2), (5, .one (.e (.sl 1 0 x68.length))), (6, I i69), (11, B (decide (i69 < ((x1.length : Nat) : Int))))], [.row .nod x1 false, .row .int x68 true]⟩ (by kernel_rfl) ⟨trivial, trivial, trivial⟩ ?_
    refine WO_nil rfl ?_
    refine thenS_n ?_
    refine iteO_e h (fun hb87 h => W_true rfl hb87 ?_) (fun hb87 h => W_false rfl hb87 ?_)
    · refine W_sub [0, 1] [0, 1, 5, 6] (st' := ⟨[(0, .one (.e (.sl 0 0 x1.length))), (1, I i2), (5, .one (.e (.sl 1 0 x68.length))), (6, I i69)], [.row .nod x1 false, .row .int x68 true]⟩) (by kernel_rfl) ?_
      refine W_skip ?_
      refine thenS_n ?_
      refine W_seq ?_
      refine W_block ?_
      refine W_seq ?_
      refine W_region ?_
      refine guardO_e h (fun hg93 h => ?_)
      refine WO_step 7 [0, 1] [0, 1, 5, 6, 20] ((0 ≤ i69 ∧ i69 < ((x1.length : Nat) : Int)) ∧ (True ∧ (True ∧ True))) ⟨[(0, .one (.e (.sl 0 0 x1.length))), (1, I i2), (5, .one (.e (.sl 1 0 x68.length))), (6, I i69), (20, B (decide (((x1.getD i69.toNat dnod).parent) = i2)))], [.row .nod x1 false, .row .int x68 true]⟩ (by kernel_rfl) ⟨hg93, trivial, trivial, trivial⟩ ?_
      refine WO_nil rfl ?_
      refine thenS_n ?_
      refine bindO_e h (fun x96 hx96 h => ?_)
      refine W_cut (Q' := fun (e : Exit) (s : St) => e = .normal ∧ s = ⟨[(0, .one (.e (.sl 0 0 x1.length))), (1, I i2), (5, .one (.e (.sl 1 0 x96.length))), (6, I i69)], [.row .nod x1 false, .row .int x96 true]⟩) ?_ ?_
      · refine iteO_e hx96 (fun hb98 hx96 => W_true rfl hb98 ?_) (fun hb98 hx96 => W_false rfl hb98 ?_)
        · refine W_region ?_
          refine guardO_e hx96 (fun hg99 hx96 => ?_)
          refine WO_step 5 [0, 3] [0, 1, 5, 6] ((0 = 0 ∧ x68.length = x68.length ∧ x68.length + (([i69].drop 0).take ([i69].length)).length ≤ 1099511627776) ∧ True) ⟨[(0, .one (.e (.sl 0 0 x1.length))), (1, I i2), (5, .one (.e (.sl 1 0 ((x68 ++ (([i69].drop 0).take ([i69].length))).length)))), (6, I i69)], [.row .nod x1 false, .row .int (x68 ++ (([i69].drop 0).take ([i69].length))) true]⟩ (by kernel_rfl) ⟨hg99, trivial⟩ ?_
          refine WO_nil rfl ?_
          cases hx96
          exact And.intro rfl rfl
        · refine W_sub [0, 1] [0, 1, 5, 6] (st' := ⟨[(0, .one (.e (.sl 0 0 x1.length))), (1, I i2), (5, .one (.e (.sl 1 0 x68.length))), (6, I i69)], [.row .nod x1 false, .row .int x68 true]⟩) (by kernel_rfl) ?_
          refine W_skip ?_
          cases hx96
          exact And.intro rfl rfl
      · rintro _ _ ⟨rfl, rfl⟩
        refine blockS_n ?_
        refine thenS_n ?_
        refine W_region ?_
        refine WO_step 3 [0, 1] [0, 1, 5, 6] (True ∧ True) ⟨[(0, .one (.e (.sl 0 0 x1.length))), (1, I i2), (5, .one (.e (.sl 1 0 x96.length))), (6, I (w64 (i69 + 1)))], [.row .nod x1 false, .row .int x96 true]⟩ (by kernel_rfl) ⟨trivial, trivial⟩ ?_
        refine WO_nil rfl ?_
        refine thenS_n ?_
        exact ih _ _ h
    · refine W_sub [0, 1] [5] (st' := ⟨[(5, .one (.e (.sl 1 0 x68.length)))], [.row .nod x1 false, .row .int x68 true]⟩) (by kernel_rfl) ?_
      refine W_exit ?_
      refine thenS_e ?_
      refine thenS_e ?_
      cases h
      exact And.intro rfl rfl

def spec_kids (n : Nat) (x1 : List Nod) (i2 : Int) : Option ((List Int)) :=
 bindO (spec_kids_L1 x1 i2 n ([] : List Int) 1) fun x84 =>
 some x84

theorem spec_kids_ok (n : Nat) (x1 : List Nod) (i2 : Int) (x49 : List Int) (h : spec_kids n x1 i2 = some x49) : FOk EE 77 [.one (.e (.sl 0 0 x1.length)), I i2] [.row .nod x1 false] (.one (.e (.sl 1 0 x49.length))) [.row .nod x1 false, .row .int x49 true] := by
  unfold spec_kids at h
  refine FOk_of_W 26 1 Try.func77 rfl rfl (Nat.le_of_ble_eq_true rfl) rfl (fun w X θ => ?_)
  refine W_seq ?_
  refine W_region ?_
  refine WO_step 1 [0] [0, 1] True ⟨[(0, .one (.e (.sl 0 0 x1.length))), (1, I i2)], [.row .nod x1 false]⟩ (by kernel_rfl) trivial ?_
  refine WO_nil rfl ?_
  refine thenS_n ?_
  refine W_seq ?_
  refine W_region ?_
  refine WO_step 2 [0, 1] [0, 1, 5] True ⟨[(0, .one (.e (.sl 0 0 x1.length))), (1, I i2), (5, .one (.e (.sl 1 0 (([] : List Int).length))))], [.row .nod x1 false, .row .int ([] : List Int) true]⟩ (by kernel_rfl) trivial ?_
  refine WO_nil rfl ?_
  refine thenS_n ?_
  refine W_seq ?_
  refine W_seq ?_
  refine W_region ?_
  refine WO_step 1 [0, 1] [0, 1, 5, 6] True ⟨[(0, .one (.e (.sl 0 0 x1.length))), (1, I i2), (5, .one (.e (.sl 1 0 (([] : List Int).length)))), (6, I 1)], [.row .nod x1 false, .row .int ([] : List Int) true]⟩ (by kernel_rfl) trivial ?_
  refine WO_nil rfl ?_
  refine thenS_n ?_
  refine W_block ?_
  refine W_loop ?_
  refine bindO_e h (fun x84 hx84 h => ?_)
  refine WL_cut (spec_kids_L1_ok w X θ x1 i2 x84 n ([] : List Int) 1 hx84) ?_
  rintro _ _ ⟨rfl, rfl⟩
  refine blockS_y ?_
  refine thenS_n ?_
  refine W_seq ?_
  refine W_region ?_
  refine WO_step 2 [0, 1] [4] True ⟨[(4, .one (.e (.sl 1 0 x84.length)))], [.row .nod x1 false, .row .int x84 true]⟩ (by kernel_rfl) trivial ?_
  refine WO_nil rfl ?_
  refine thenS_n ?_
  refine W_ret ?_
  cases h
  exact ⟨[0, 1], True, by kernel_rfl, trivial⟩

/- spec.walk -/
def spec_walk_L2 (rec : (List Nod) → Int → Option ((List Int))) (x1 : List Nod) (i2 : Int) (i463 : Int) : Nat → (List Int) → Int → Option ((List Int))
| 0, _, _ => none
| n + 1, x633, i634 =>
 bindO (iteO (decide (0 < i634))
 (guardO (0 ≤ i634 ∧ i634 < ((x633.length : Nat) : Int)) <|
 guardO (0 ≤ (x633.getD i634.toNat 0) ∧ (x633.getD i634.toNat 0) < ((x1.length : Nat) : Int)) <|
 guardO (0 ≤ (w64 (i634 - 1)) ∧ (w64 (i634 - 1)) < ((x633.length : Nat) : Int)) <|
 guardO (0 ≤ (x633.getD ((w64 (i634 - 1)).toNat) 0) ∧ (x633.getD ((w64 (i634 - 1)).toNat) 0) < ((x1.length : Nat) : Int)) <|
 some (Op.bytesLess ((x1.getD ((x633.getD i634.toNat 0).toNat) dnod).name) ((x1.getD ((x633.getD ((w64 (i634 - 1)).toNat) 0).toNat) dnod).name)))
 (some false)) fun b661 =>
 iteO b661
 (guardO (0 ≤ i634 ∧ i634 < ((x633.length : Nat) : Int)) <|
 guardO (0 ≤ (w64 (i634 - 1)) ∧ (w64 (i634 - 1)) < ((x633.length : Nat) : Int)) <|
 guardO (0 ≤ i634 ∧ i634 < ((x633.length : Nat) : Int)) <|
 guardO (0 ≤ (w64 (i634 - 1)) ∧ (w64 (i634 - 1)) < (((x633.set i634.toNat (x633.getD ((w64 (i634 - 1)).toNat) 0)).length : Nat) : Int)) <|
 spec_walk_L2 rec x1 i2 i463 n ((x633.set i634.toNat (x633.getD ((w64 (i634 - 1)).toNat) 0)).set ((w64 (i634 - 1)).toNat) (x633.getD i634.toNat 0)) (w64 (i634 - 1)))
 (some x633)

theorem spec_walk_L2_ok (rec : (List Nod) → Int → Option ((List Int))) (hrec : ∀ (x1 : List Nod) (i2 : Int) (x3 : List Int), rec x1 i2 = some x3 → FOk EE 54 [.one (.e (.sl 0 0 x1.length)), I i2] [.row .nod x1 false] (.one (.e (.sl 1 0 x3.length))) [.row .nod x1 false, .row .int x3 true]) (w : World) (X : Nat → Prop) (θ : List Loc) (x1 : List Nod) (i2 : Int) (i463 : Int) (x654 : (List Int)) : ∀ (n : Nat) (x633 : List Int) (i634 : Int), spec_walk_L2 rec x1 i2 i463 n x633 i634 = some x654 → WL EE ⟨w, X, θ, 79, 1⟩ (subC [1, 1, 1, 0, 1, 4, 4, 1, 0, 4, 1, 4, 4] (bodyC Try.f54)) (fun (e : Exit) (s : St) => e = .exit 2 ∧ s = ⟨[(0, .one (.e (.sl 0 0 x1.length))), (5, .one (.e (.sl 1 0 ([i2].length)))), (6, .one (.e (.sl 2 0 x654.length))), (7, I i463)], [.row .nod x1 false, .row .int [i2] true, .row .int x654 true]⟩) ⟨[(0, .one (.e (.sl 0 0 x1.length))), (5, .one (.e (.sl 1 0 ([i2].length)))), (6, .one (.e (.sl 2 0 x633.length))), (7, I i463), (8, I i634)], [.row .nod x1 false, .row .int [i2] true, .row .int x633 true]⟩ := by
  intro n
  induction n with
  | zero => intro _ _ h; exact none_e h
  | succ n ih =>
    intro x633 i634 h
    rw [spec_walk_L2] at h
    refine WL_round ?_
    refine W_seq ?_
    refine W_seq ?_
    refine bindO_e h (fun b661 hv662 h => ?_)
    refine W_cut (Q' := fun (e : Exit) (s : St) => e = .normal ∧ s = ⟨[(0, .one (.e (.sl 0 0 x1.length))), (5, .one (.e (.sl 1 0 ([i2].length)))), (6, .one (.e (.sl 2 0 x633.length))), (7, I i463), (8, I i634), (44, B b661)], [.row .nod x1 false, .row .int [i2] true, .row .int x633 true]⟩) ?_ ?_
    · refine iteO_e hv662 (fun hb656 hv662 => ?_) (fun hb656 hv662 => ?_)
      · refine guardO_e hv662 (fun hg657 hv662 => ?_)
        refine guardO_e hv662 (fun hg658 hv662 => ?_)
        refine guardO_e hv662 (fun hg659 hv662 => ?_)
        refine guardO_e hv662 (fun hg660 hv662 => ?_)
        refine W_draw [] true (by kernel_rfl) (by kernel_rfl) ?_
        refine WD_takeK [0, 1, 2] [0, 5, 6, 7, 8, 25] [0, 5, 6, 7, 8, 25] (φ := (True ∧ True ∧ True)) (ls' := #[true, true, true, false, false, false, false, false, false, false, false, false, false, false, false, false, false, false, false, false, false, false]) (Ts' := [(0, .one (.e (.sl 0 0 x1.length))), (5, .one (.e (.sl 1 0 ([i2].length)))), (6, .one (.e (.sl 2 0 x633.length))), (7, I i463), (8, I i634), (25, B (decide (0 < i634)))]) (st' := ⟨[(0, .one (.e (.sl 0 0 x1.length))), (5, .one (.e (.sl 1 0 ([i2].length)))), (6, .one (.e (.sl 2 0 x633.length))), (7, I i463), (8, I i634), (25, B (decide (0 < i634)))], [.row .nod x1 false, .row .int [i2] true, .row .int x633 true]⟩) (n2 := 19) (by kernel_rfl) ⟨trivial, trivial, trivial⟩ rfl ?_
        refine WD_known 25 true rfl rfl hb656 ?_
        refine WD_takeK [3, 4, 5, 6, 7, 8, 9, 10, 11, 12, 13, 14, 15, 16, 17, 18, 19, 20, 21] [0, 5, 6, 7, 8, 44] [0, 5, 6, 7, 8, 44] (φ := ((0 ≤ i634 ∧ i634 < ((x633.length : Nat) : Int)) ∧ (0 ≤ i634 ∧ i634 < ((x633.length : Nat) : Int)) ∧ (True ∧ True ∧ ((0 ≤ (x633.getD i634.toNat 0) ∧ (x633.getD i634.toNat 0) < ((x1.length : Nat) : Int)) ∧ (0 ≤ (x633.getD i634.toNat 0) ∧ (x633.getD i634.toNat 0) < ((x1.length : Nat) : Int)) ∧ (True ∧ True ∧ (True ∧ True ∧ ((0 ≤ (w64 (i634 - 1)) ∧ (w64 (i634 - 1)) < ((x633.length : Nat) : Int)) ∧ (0 ≤ (w64 (i634 - 1)) ∧ (w64 (i634 - 1)) < ((x633.length : Nat) : Int)) ∧ (True ∧ True ∧ ((0 ≤ (x633.getD ((w64 (i634 - 1)).toNat) 0) ∧ (x633.getD ((w64 (i634 - 1)).toNat) 0) < ((x1.length : Nat) : Int)) ∧ (0 ≤ (x633.getD ((w64 (i634 - 1)).toNat) 0) ∧ (x633.getD ((w64 (i634 - 1)).toNat) 0) < ((x1.length : Nat) : Int)) ∧ (True ∧ True ∧ (True ∧ True ∧ True))))))))))) (ls' := #[true, true, true, true, true, true, true, true, true, true, true, true, true, true, true, true, true, true, true, true, true, true]) (Ts' := [(0, .one (.e (.sl 0 0 x1.length))), (5, .one (.e (.sl 1 0 ([i2].length)))), (6, .one (.e (.sl 2 0 x633.length))), (7, I i463), (8, I i634), (44, B (Op.bytesLess ((x1.getD ((x633.getD i634.toNat 0).toNat) dnod).name) ((x1.getD ((x633.getD ((w64 (i634 - 1)).toNat) 0).toNat) dnod).name)))]) (st' := ⟨[(0, .one (.e (.sl 0 0 x1.length))), (5, .one (.e (.sl 1 0 ([i2].length)))), (6, .one (.e (.sl 2 0 x633.length))), (7, I i463), (8, I i634), (44, B (Op.bytesLess ((x1.getD ((x633.getD i634.toNat 0).toNat) dnod).name) ((x1.getD ((x633.getD ((w64 (i634 - 1)).toNat) 0).toNat) dnod).name)))], [.row .nod x1 false, .row .int [i2] true, .row .int x633 true]⟩) (n2 := 0) (by kernel_rfl) ⟨hg657, hg657, trivial, trivial, hg658, hg658, trivial, trivial, trivial, trivial, hg659, hg659, trivial, trivial, hg660, hg660, trivial, trivial, trivial, trivial, trivial⟩ rfl ?_
        exact WD_done [0, 1, 2] [0, 5, 6, 7, 8, 44] (st' := ⟨[(0, .one (.e (.sl 0 0 x1.length))), (5, .one (.e (.sl 1 0 ([i2].length)))), (6, .one (.e (.sl 2 0 x633.length))), (7, I i463), (8, I i634), (44, B (Op.bytesLess ((x1.getD ((x633.getD i634.toNat 0).toNat) dnod).name) ((x1.getD ((x633.getD ((w64 (i634 - 1)).toNat) 0).toNat) dnod).name)))], [.row .nod x1 false, .row .int [i2] true, .row .int x633 true]⟩) (by kernel_rfl) (by kernel_rfl) (And.intro rfl (by cases hv662; rfl))
      · refine W_draw [] true (by kernel_rfl) (by kernel_rfl) ?_
        refine WD_takeK [0, 1, 2] [0, 5, 6, 7, 8, 25] [0, 5, 6, 7, 8, 25] (φ := (True ∧ True ∧ True)) (ls' := #[true, true, true, false, false, false, false, false, false, false, false, false, false, false, false, false, false, false, false, false, false, false]) (Ts' := [(0, .one (.e (.sl 0 0 x1.length))), (5, .one (.e (.sl 1 0 ([i2].length)))), (6, .one (.e (.sl 2 0 x633.length))), (7, I i463), (8, I i634), (25, B (decide (0 < i634)))]) (st' := ⟨[(0, .one (.e (.sl 0 0 x1.length))), (5, .one (.e (.sl 1 0 ([i2].length)))), (6, .one (.e (.sl 2 0 x633.length))), (7, I i463), (8, I i634), (25, B (decide (0 < i634)))], [.row .nod x1 false, .row .int [i2] true, .row .int x633 true]⟩) (n2 := 19) (by kernel_rfl) ⟨trivial, trivial, trivial⟩ rfl ?_
        refine WD_known 25 false rfl rfl hb656 ?_
        refine WD_takeK [3, 4, 5, 6, 7, 8, 9, 10, 11, 12, 13, 14, 15, 16, 17, 18, 19, 20, 21] [0, 5, 6, 7, 8, 44] [0, 5, 6, 7, 8, 44] (φ := True) (ls' := #[true, true, true, true, true, true, true, true, true, true, true, true, true, true, true, true, true, true, true, true, true, true]) (Ts' := [(0, .one (.e (.sl 0 0 x1.length))), (5, .one (.e (.sl 1 0 ([i2].length)))), (6, .one (.e (.sl 2 0 x633.length))), (7, I i463), (8, I i634), (44, B false)]) (st' := ⟨[(0, .one (.e (.sl 0 0 x1.length))), (5, .one (.e (.sl 1 0 ([i2].length)))), (6, .one (.e (.sl 2 0 x633.length))), (7, I i463), (8, I i634), (44, B false)], [.row .nod x1 false, .row .int [i2] true, .row .int x633 true]⟩) (n2 := 0) (by kernel_rfl) trivial rfl ?_
        exact WD_done [0, 1, 2] [0, 5, 6, 7, 8, 44] (st' := ⟨[(0, .one (.e (.sl 0 0 x1.length))), (5, .one (.e (.sl 1 0 ([i2].length)))), (6, .one (.e (.sl 2 0 x633.length))), (7, I i463), (8, I i634), (44, B false)], [.row .nod x1 false, .row .int [i2] true, .row .int x633 true]⟩) (by kernel_rfl) (by kernel_rfl) (And.intro rfl (by cases hv662; rfl))
    · rintro _ _ ⟨rfl, rfl⟩
      refine thenS_n ?_
      refine iteO_e h (fun hb664 h => W_true rfl hb664 ?_) (fun hb664 h => W_false rfl hb664 ?_)
      · refine W_sub [0, 1, 2] [0, 5, 6, 7, 8] (st' := ⟨[(0, .one (.e (.sl 0 0 x1.length))), (5, .one (.e (.sl 1 0 ([i2].length)))), (6, .one (.e (.sl 2 0 x633.length))), (7, I i463), (8, I i634)], [.row .nod x1 false, .row .int [i2] true, .row .int x633 true]⟩) (by kernel_rfl) ?_
        refine W_skip ?_
        refine thenS_n ?_
        refine W_seq ?_
        refine W_block ?_
        refine W_seq ?_
        refine W_region ?_
        refine guardO_e h (fun hg669 h => ?_)
        refine WO_step 5 [0, 1, 2] [0, 5, 6, 7, 8, 9] ((0 ≤ i634 ∧ i634 < ((x633.length : Nat) : Int)) ∧ (True ∧ True)) ⟨[(0, .one (.e (.sl 0 0 x1.length))), (5, .one (.e (.sl 1 0 ([i2].length)))), (6, .one (.e (.sl 2 0 x633.length))), (7, I i463), (8, I i634), (9, I (x633.getD i634.toNat 0))], [.row .nod x1 false, .row .int [i2] true, .row .int x633 true]⟩ (by kernel_rfl) ⟨hg669, trivial, trivial⟩ ?_
        refine WO_nil rfl ?_
        refine thenS_n ?_
        refine W_seq ?_
        refine W_region ?_
        refine guardO_e h (fun hg670 h => ?_)
        refine guardO_e h (fun hg671 h => ?_)
        refine WO_step 9 [0, 1, 2] [0, 5, 6, 7, 8, 9] (True ∧ ((0 ≤ (w64 (i634 - 1)) ∧ (w64 (i634 - 1)) < ((x633.length : Nat) : Int)) ∧ (True ∧ ((0 ≤ i634 ∧ i634 < ((x633.length : Nat) : Int)) ∧ (True ∧ True))))) ⟨[(0, .one (.e (.sl 0 0 x1.length))), (5, .one (.e (.sl 1 0 ([i2].length)))), (6, .one (.e (.sl 2 0 x633.length))), (7, I i463), (8, I i634), (9, I (x633.getD i634.toNat 0))], [.row .nod x1 false, .row .int [i2] true, .row .int (x633.set i634.toNat (x633.getD ((w64 (i634 - 1)).toNat) 0)) true]⟩ (by kernel_rfl) ⟨trivial, hg670, trivial, hg671, trivial, trivial⟩ ?_
        refine WO_eq (st' := ⟨[(0, .one (.e (.sl 0 0 x1.length))), (5, .one (.e (.sl 1 0 ([i2].length)))), (6, .one (.e (.sl 2 0 ((x633.set i634.toNat (x633.getD ((w64 (i634 - 1)).toNat) 0)).length)))), (7, I i463), (8, I i634), (9, I (x633.getD i634.toNat 0))], [.row .nod x1 false, .row .int [i2] true, .row .int (x633.set i634.toNat (x633.getD ((w64 (i634 - 1)).toNat) 0)) true]⟩) (by simp only [List.length_set]) ?_
        refine WO_nil rfl ?_
        refine thenS_n ?_
        refine W_region ?_
        refine guardO_e h (fun hg672 h => ?_)
        refine WO_step 6 [0, 1, 2] [0, 5, 6, 7, 8] (True ∧ ((0 ≤ (w64 (i634 - 1)) ∧ (w64 (i634 - 1)) < (((x633.set i634.toNat (x633.getD ((w64 (i634 - 1)).toNat) 0)).length : Nat) : Int)) ∧ (True ∧ True))) ⟨[(0, .one (.e (.sl 0 0 x1.length))), (5, .one (.e (.sl 1 0 ([i2].length)))), (6, .one (.e (.sl 2 0 ((x633.set i634.toNat (x633.getD ((w64 (i634 - 1)).toNat) 0)).length)))), (7, I i463), (8, I i634)], [.row .nod x1 false, .row .int [i2] true, .row .int ((x633.set i634.toNat (x633.getD ((w64 (i634 - 1)).toNat) 0)).set ((w64 (i634 - 1)).toNat) (x633.getD i634.toNat 0)) true]⟩ (by kernel_rfl) ⟨trivial, hg672, trivial, trivial⟩ ?_
        refine WO_eq (st' := ⟨[(0, .one (.e (.sl 0 0 x1.length))), (5, .one (.e (.sl 1 0 ([i2].length)))), (6, .one (.e (.sl 2 0 (((x633.set i634.toNat (x633.getD ((w64 (i634 - 1)).toNat) 0)).set ((w64 (i634 - 1)).toNat) (x633.getD i634.toNat 0)).length)))), (7, I i463), (8, I i634)], [.row .nod x1 false, .row .int [i2] true, .row .int ((x633.set i634.toNat (x633.getD ((w64 (i634 - 1)).toNat) 0)).set ((w64 (i634 - 1)).toNat) (x633.getD i634.toNat 0)) true]⟩) (by simp only [List.length_set]) ?_
        refine WO_nil rfl ?_
        refine blockS_n ?_
        refine thenS_n ?_
        refine W_region ?_
        refine WO_step 3 [0, 1, 2] [0, 5, 6, 7, 8] (True ∧ True) ⟨[(0, .one (.e (.sl 0 0 x1.length))), (5, .one (.e (.sl 1 0 ([i2].length)))), (6, .one (.e (.sl 2 0 (((x633.set i634.toNat (x633.getD ((w64 (i634 - 1)).toNat) 0)).set ((w64 (i634 - 1)).toNat) (x633.getD i634.toNat 0)).length)))), (7, I i463), (8, I (w64 (i634 - 1)))], [.row .nod x1 false, .row .int [i2] true, .row .int ((x633.set i634.toNat (x633.getD ((w64 (i634 - 1)).toNat) 0)).set ((w64 (i634 - 1)).toNat) (x633.getD i634.toNat 0)) true]⟩ (by kernel_rfl) ⟨trivial, trivial⟩ ?_
        refine WO_nil rfl ?_
        refine thenS_n ?_
        exact ih _ _ h
      · refine W_sub [0, 1, 2] [0, 5, 6, 7] (st' := ⟨[(0, .one (.e (.sl 0 0 x1.length))), (5, .one (.e (.sl 1 0 ([i2].length)))), (6, .one (.e (.sl 2 0 x633.length))), (7, I i463)], [.row .nod x1 false, .row .int [i2] true, .row .int x633 true]⟩) (by kernel_rfl) ?_
        refine W_exit ?_
        refine thenS_e ?_
        refine thenS_e ?_
        cases h
        exact And.intro rfl rfl

def spec_walk_L1 (rec : (List Nod) → Int → Option ((List Int))) (x1 : List Nod) (i2 : Int) : Nat → (List Int) → Int → Option ((List Int))
| 0, _, _ => none
| n + 1, x462, i463 =>
 iteO (decide (i463 < ((x462.length : Nat) : Int)))
 (bindO (spec_walk_L2 rec x1 i2 i463 n x462 i463) fun x654 =>
 spec_walk_L1 rec x1 i2 n x654 (w64 (i463 + 1)))
 (some x462)

theorem spec_walk_L1_ok (rec : (List Nod) → Int → Option ((List Int))) (hrec : ∀ (x1 : List Nod) (i2 : Int) (x3 : List Int), rec x1 i2 = some x3 → FOk EE 54 [.one (.e (.sl 0 0 x1.length)), I i2] [.row .nod x1 false] (.one (.e (.sl 1 0 x3.length))) [.row .nod x1 false, .row .int x3 true]) (w : World) (X : Nat → Prop) (θ : List Loc) (x1 : List Nod) (i2 : Int) (x560 : (List Int)) : ∀ (n : Nat) (x462 : List Int) (i463 : Int), spec_walk_L1 rec x1 i2 n x462 i463 = some x560 → WL EE ⟨w, X, θ, 79, 1⟩ (subC [1, 1, 1, 0, 1, 4, 4] (bodyC Try.f54)) (fun (e : Exit) (s : St) => e = .exit 0 ∧ s = ⟨[(0, .one (.e (.sl 0 0 x1.length))), (5, .one (.e (.sl 1 0 ([i2].length)))), (6, .one (.e (.sl 2 0 x560.length)))], [.row .nod x1 false, .row .int [i2] true, .row .int x560 true]⟩) ⟨[(0, .one (.e (.sl 0 0 x1.length))), (5, .one (.e (.sl 1 0 ([i2].length)))), (6, .one (.e (.sl 2 0 x462.length))), (7, I i463)], [.row .nod x1 false, .row .int [i2] true, .row .int x462 true]⟩ := by
  intro n
  induction n with
  | zero => intro _ _ h; exact none_e h
  | succ n ih =>
    intro x462 i463 h
    rw [spec_walk_L1] at h
    refine WL_round ?_
    refine W_seq ?_
    refine W_seq ?_
    refine W_region ?_
    refine WO_step 4 [0, 1, 2] [0, 5, 6, 7, 19] (True ∧ (True ∧ True)) ⟨[(0, .one (.e (.sl 0 0 x1.length))), (5, .one (.e (.sl 1 0 ([i2].length)))), (6, .one (.e (.sl 2 0 x462.length))), (7, I i463), (19, B (decide (i463 < ((x462.length : Nat) : Int))))], [.row .nod x1 false, .row .int [i2] true, .row .int x462 true]⟩ (by kernel_rfl) ⟨trivial, trivial, trivial⟩ ?_
    refine WO_nil rfl ?_
    refine thenS_n ?_
    refine iteO_e h (fun hb563 h => W_true rfl hb563 ?_) (fun hb563 h => W_false rfl hb563 ?_)
    · refine W_sub [0, 1, 2] [0, 5, 6, 7] (st' := ⟨[(0, .one (.e (.sl 0 0 x1.length))), (5, .one (.e (.sl 1 0 ([i2].length)))), (6, .one (.e (.sl 2 0 x462.length))), (7, I i463)], [.row .nod x1 false, .row .int [i2] true, .row .int x462 true]⟩) (by kernel_rfl) ?_
      refine W_skip ?_
      refine thenS_n ?_
      refine W_seq ?_
      refine W_block ?_
      refine W_seq ?_
      refine W_region ?_
      refine WO_step 2 [0, 1, 2] [0, 5, 6, 7, 8] True ⟨[(0, .one (.e (.sl 0 0 x1.length))), (5, .one (.e (.sl 1 0 ([i2].length)))), (6, .one (.e (.sl 2 0 x462.length))), (7, I i463), (8, I i463)], [.row .nod x1 false, .row .int [i2] true, .row .int x462 true]⟩ (by kernel_rfl) trivial ?_
      refine WO_nil rfl ?_
      refine thenS_n ?_
      refine W_block ?_
      refine W_loop ?_
      refine bindO_e h (fun x654 hx654 h => ?_)
      refine WL_cut (spec_walk_L2_ok rec hrec w X θ x1 i2 i463 x654 n x462 i463 hx654) ?_
      rintro _ _ ⟨rfl, rfl⟩
      refine blockS_y ?_
      refine blockS_n ?_
      refine thenS_n ?_
      refine W_region ?_
      refine WO_step 3 [0, 1, 2] [0, 5, 6, 7] (True ∧ True) ⟨[(0, .one (.e (.sl 0 0 x1.length))), (5, .one (.e (.sl 1 0 ([i2].length)))), (6, .one (.e (.sl 2 0 x654.length))), (7, I (w64 (i463 + 1)))], [.row .nod x1 false, .row .int [i2] true, .row .int x654 true]⟩ (by kernel_rfl) ⟨trivial, trivial⟩ ?_
      refine WO_nil rfl ?_
      refine thenS_n ?_
      exact ih _ _ h
    · refine W_sub [0, 1, 2] [0, 5, 6] (st' := ⟨[(0, .one (.e (.sl 0 0 x1.length))), (5, .one (.e (.sl 1 0 ([i2].length)))), (6, .one (.e (.sl 2 0 x462.length)))], [.row .nod x1 false, .row .int [i2] true, .row .int x462 true]⟩) (by kernel_rfl) ?_
      refine W_exit ?_
      refine thenS_e ?_
      refine thenS_e ?_
      cases h
      exact And.intro rfl rfl

def spec_walk_L3 (rec : (List Nod) → Int → Option ((List Int))) (x1 : List Nod) (x560 : List Int) : Nat → (List Int) → Int → Option ((List Int))
| 0, _, _ => none
| n + 1, x691, i692 =>
 iteO (decide (i692 < ((x560.length : Nat) : Int)))
 (guardO (0 ≤ i692 ∧ i692 < ((x560.length : Nat) : Int)) <|
 bindO (rec x1 (x560.getD i692.toNat 0)) fun x714 =>
 guardO (0 = 0 ∧ x691.length = x691.length ∧ x691.length + ((x714.drop 0).take x714.length).length ≤ 1099511627776) <|
 spec_walk_L3 rec x1 x560 n (x691 ++ ((x714.drop 0).take x714.length)) (w64 (i692 + 1)))
 (some x691)

theorem spec_walk_L3_ok (rec : (List Nod) → Int → Option ((List Int))) (hrec : ∀ (x1 : List Nod) (i2 : Int) (x3 : List Int), rec x1 i2 = some x3 → FOk EE 54 [.one (.e (.sl 0 0 x1.length)), I i2] [.row .nod x1 false] (.one (.e (.sl 1 0 x3.length))) [.row .nod x1 false, .row .int x3 true]) (w : World) (X : Nat → Prop) (θ : List Loc) (x1 : List Nod) (x560 : List Int) (x705 : (List Int)) : ∀ (n : Nat) (x691 : List Int) (i692 : Int), spec_walk_L3 rec x1 x560 n x691 i692 = some x705 → WL EE ⟨w, X, θ, 79, 1⟩ (subC [1, 1, 1, 1, 0, 1, 4, 4] (bodyC Try.f54)) (fun (e : Exit) (s : St) => e = .exit 4 ∧ s = ⟨[(5, .one (.e (.sl 1 0 x705.length)))], [.row .nod x1 false, .row .int x705 true]⟩) ⟨[(0, .one (.e (.sl 0 0 x1.length))), (5, .one (.e (.sl 1 0 x691.length))), (6, .one (.e (.sl 2 0 x560.length))), (10, I i692)], [.row .nod x1 false, .row .int x691 true, .row .int x560 true]⟩ := by
  intro n
  induction n with
  | zero => intro _ _ h; exact none_e h
  | succ n ih =>
    intro x691 i692 h
    rw [spec_walk_L3] at h
    refine WL_round ?_
    refine W_seq ?_
    refine W_seq ?_
    refine W_region ?_
    refine WO_step 4 [0, 1, 2] [0, 5, 6, 10, 67] (True ∧ (True ∧ True)) ⟨[(0, .one (.e (.sl 0 0 x1.length))), (5, .one (.e (.sl 1 0 x691.length))), (6, .one (.e (.sl 2 0 x560.length))), (10, I i692), (67, B (decide (i692 < ((x560.length : Nat) : Int))))], [.row .nod x1 false, .row .int x691 true, .row .int x560 true]⟩ (by kernel_rfl) ⟨trivial, trivial, trivial⟩ ?_
    refine WO_nil rfl ?_
    refine thenS_n ?_
    refine iteO_e h (fun hb708 h => W_true rfl hb708 ?_) (fun hb708 h => W_false rfl hb708 ?_)
    · refine W_sub [0, 1, 2] [0, 5, 6, 10] (st' := ⟨[(0, .one (.e (.sl 0 0 x1.length))), (5, .one (.e (.sl 1 0 x691.length))), (6, .one (.e (.sl 2 0 x560.length))), (10, I i692)], [.row .nod x1 false, .row .int x691 true, .row .int x560 true]⟩) (by kernel_rfl) ?_
      refine W_skip ?_
      refine thenS_n ?_
      refine W_seq ?_
      refine W_block ?_
      refine W_region ?_
      refine guardO_e h (fun hg713 h => ?_)
      refine WO_step 6 [0, 2, 1] [0, 6, 10, 70, 71, 75] ((0 ≤ i692 ∧ i692 < ((x560.length : Nat) : Int)) ∧ (True ∧ True)) ⟨[(0, .one (.e (.sl 0 0 x1.length))), (6, .one (.e (.sl 1 0 x560.length))), (10, I i692), (70, .one (.e (.sl 2 0 x691.length))), (71, .one (.e (.sl 0 0 x1.length))), (75, I (x560.getD i692.toNat 0))], [.row .nod x1 false, .row .int x560 true, .row .int x691 true]⟩ (by kernel_rfl) ⟨hg713, trivial, trivial⟩ ?_
      refine bindO_e h (fun x714 hc715 h => ?_)
      refine WO_call [.ro 0] Try.f54 rfl rfl rfl (by kernel_rfl) Try.func54 rfl (by kernel_rfl) (hrec x1 (x560.getD i692.toNat 0) x714 hc715) (And.intro (And.intro rfl rfl) (trivial)) rfl ?_
      refine guardO_e h (fun hg716 h => ?_)
      refine WO_step 2 [0, 4, 1] [0, 5, 6, 10] ((0 = 0 ∧ x691.length = x691.length ∧ x691.length + ((x714.drop 0).take x714.length).length ≤ 1099511627776) ∧ True) ⟨[(0, .one (.e (.sl 0 0 x1.length))), (5, .one (.e (.sl 1 0 ((x691 ++ ((x714.drop 0).take x714.length)).length)))), (6, .one (.e (.sl 2 0 x560.length))), (10, I i692)], [.row .nod x1 false, .row .int (x691 ++ ((x714.drop 0).take x714.length)) true, .row .int x560 true]⟩ (by kernel_rfl) ⟨hg716, trivial⟩ ?_
      refine WO_nil rfl ?_
      refine blockS_n ?_
      refine thenS_n ?_
      refine W_region ?_
      refine WO_step 3 [0, 1, 2] [0, 5, 6, 10] (True ∧ True) ⟨[(0, .one (.e (.sl 0 0 x1.length))), (5, .one (.e (.sl 1 0 ((x691 ++ ((x714.drop 0).take x714.length)).length)))), (6, .one (.e (.sl 2 0 x560.length))), (10, I (w64 (i692 + 1)))], [.row .nod x1 false, .row .int (x691 ++ ((x714.drop 0).take x714.length)) true, .row .int x560 true]⟩ (by kernel_rfl) ⟨trivial, trivial⟩ ?_
      refine WO_nil rfl ?_
      refine thenS_n ?_
      exact ih _ _ h
    · refine W_sub [0, 1] [5] (st' := ⟨[(5, .one (.e (.sl 1 0 x691.length)))], [.row .nod x1 false, .row .int x691 true]⟩) (by kernel_rfl) ?_
      refine W_exit ?_
      refine thenS_e ?_
      refine thenS_e ?_
      cases h
      exact And.intro rfl rfl

def spec_walk_B (rec : (List Nod) → Int → Option ((List Int))) (n : Nat) (x1 : List Nod) (i2 : Int) : Option ((List Int)) :=
 bindO (spec_kids n x1 i2) fun x360 =>
 bindO (spec_walk_L1 rec x1 i2 n x360 0) fun x560 =>
 bindO (spec_walk_L3 rec x1 x560 n [i2] 0) fun x705 =>
 some x705

theorem spec_walk_B_ok (rec : (List Nod) → Int → Option ((List Int))) (hrec : ∀ (x1 : List Nod) (i2 : Int) (x3 : List Int), rec x1 i2 = some x3 → FOk EE 54 [.one (.e (.sl 0 0 x1.length)), I i2] [.row .nod x1 false] (.one (.e (.sl 1 0 x3.length))) [.row .nod x1 false, .row .int x3 true]) (n : Nat) (x1 : List Nod) (i2 : Int) (x359 : List Int) (h : spec_walk_B rec n x1 i2 = some x359) : FOk EE 54 [.one (.e (.sl 0 0 x1.length)), I i2] [.row .nod x1 false] (.one (.e (.sl 1 0 x359.length))) [.row .nod x1 false, .row .int x359 true] := by
  unfold spec_walk_B at h
  refine FOk_of_W 79 1 Try.func54 rfl rfl (Nat.le_of_ble_eq_true rfl) rfl (fun w X θ => ?_)
  refine W_seq ?_
  refine W_region ?_
  refine WO_step 1 [0] [0, 1] True ⟨[(0, .one (.e (.sl 0 0 x1.length))), (1, I i2)], [.row .nod x1 false]⟩ (by kernel_rfl) trivial ?_
  refine WO_nil rfl ?_
  refine thenS_n ?_
  refine W_seq ?_
  refine W_region ?_
  refine WO_step 3 [0, 1] [0, 1, 5] True ⟨[(0, .one (.e (.sl 0 0 x1.length))), (1, I i2), (5, .one (.e (.sl 1 0 ([i2].length))))], [.row .nod x1 false, .row .int [i2] true]⟩ (by kernel_rfl) trivial ?_
  refine WO_nil rfl ?_
  refine thenS_n ?_
  refine W_seq ?_
  refine W_region ?_
  refine WO_step 2 [0, 1] [0, 5, 13, 14] True ⟨[(0, .one (.e (.sl 0 0 x1.length))), (5, .one (.e (.sl 1 0 ([i2].length)))), (13, .one (.e (.sl 0 0 x1.length))), (14, I i2)], [.row .nod x1 false, .row .int [i2] true]⟩ (by kernel_rfl) trivial ?_
  refine bindO_e h (fun x360 hc361 h => ?_)
  refine WO_call [.ro 0] Try.f77 rfl rfl rfl (by kernel_rfl) Try.func77 rfl (by kernel_rfl) (spec_kids_ok n x1 i2 x360 hc361) (And.intro (And.intro rfl rfl) (trivial)) rfl ?_
  refine WO_step 1 [0, 1, 2] [0, 5, 6] True ⟨[(0, .one (.e (.sl 0 0 x1.length))), (5, .one (.e (.sl 1 0 ([i2].length)))), (6, .one (.e (.sl 2 0 x360.length)))], [.row .nod x1 false, .row .int [i2] true, .row .int x360 true]⟩ (by kernel_rfl) trivial ?_
  refine WO_nil rfl ?_
  refine thenS_n ?_
  refine W_seq ?_
  refine W_seq ?_
  refine W_region ?_
  refine WO_step 1 [0, 1, 2] [0, 5, 6, 7] True ⟨[(0, .one (.e (.sl 0 0 x1.length))), (5, .one (.e (.sl 1 0 ([i2].length)))), (6, .one (.e (.sl 2 0 x360.length))), (7, I 0)], [.row .nod x1 false, .row .int [i2] true, .row .int x360 true]⟩ (by kernel_rfl) trivial ?_
  refine WO_nil rfl ?_
  refine thenS_n ?_
  refine W_block ?_
  refine W_loop ?_
  refine bindO_e h (fun x560 hx560 h => ?_)
  refine WL_cut (spec_walk_L1_ok rec hrec w X θ x1 i2 x560 n x360 0 hx560) ?_
  rintro _ _ ⟨rfl, rfl⟩
  refine blockS_y ?_
  refine thenS_n ?_
  refine W_seq ?_
  refine W_seq ?_
  refine W_region ?_
  refine WO_step 1 [0, 1, 2] [0, 5, 6, 10] True ⟨[(0, .one (.e (.sl 0 0 x1.length))), (5, .one (.e (.sl 1 0 ([i2].length)))), (6, .one (.e (.sl 2 0 x560.length))), (10, I 0)], [.row .nod x1 false, .row .int [i2] true, .row .int x560 true]⟩ (by kernel_rfl) trivial ?_
  refine WO_nil rfl ?_
  refine thenS_n ?_
  refine W_block ?_
  refine W_loop ?_
  refine bindO_e h (fun x705 hx705 h => ?_)
  refine WL_cut (spec_walk_L3_ok rec hrec w X θ x1 x560 x705 n [i2] 0 hx705) ?_
  rintro _ _ ⟨rfl, rfl⟩
  refine blockS_y ?_
  refine thenS_n ?_
  refine W_seq ?_
  refine W_region ?_
  refine WO_step 2 [0, 1] [4] True ⟨[(4, .one (.e (.sl 1 0 x705.length)))], [.row .nod x1 false, .row .int x705 true]⟩ (by kernel_rfl) trivial ?_
  refine WO_nil rfl ?_
  refine thenS_n ?_
  refine W_ret ?_
  cases h
  exact ⟨[0, 1], True, by kernel_rfl, trivial⟩

def spec_walk : Nat → (List Nod) → Int → Option ((List Int))
| 0, _, _ => none
| n + 1, x1, i2 => spec_walk_B (spec_walk n) n x1 i2

theorem spec_walk_ok : ∀ (n : Nat) (x1 : List Nod) (i2 : Int) (x359 : List Int), spec_walk n x1 i2 = some x359 → FOk EE 54 [.one (.e (.sl 0 0 x1.length)), I i2] [.row .nod x1 false] (.one (.e (.sl 1 0 x359.length))) [.row .nod x1 false, .row .int x359 true] := by
  intro n
  induction n with
  | zero => intro _ _ _ h; exact none_e h
  | succ n ih => intro x1 i2 x359 h; exact spec_walk_B_ok (spec_walk n) ih n x1 i2 x359 h

/- spec.pathTo -/
def spec_pathTo_L1 (x1 : List Nod) : Nat → (List Int) → Int → Option ((List Int))
| 0, _, _ => none
| n + 1, x46, i47 =>
 iteO (decide (0 < i47))
 (guardO (0 ≤ i47 ∧ i47 < ((x1.length : Nat) : Int)) <|
 guardO (0 = 0 ∧ [(x1.getD i47.toNat dnod).parent].length = [(x1.getD i47.toNat dnod).parent].length ∧ [(x1.getD i47.toNat dnod).parent].length + ((x46.drop 0).take x46.length).length ≤ 1099511627776) <|
 spec_pathTo_L1 x1 n ([(x1.getD i47.toNat dnod).parent] ++ ((x46.drop 0).take x46.length)) ((x1.getD i47.toNat dnod).parent))
 (some x46)

theorem spec_pathTo_L1_ok (w : World) (X : Nat → Prop) (θ : List Loc) (x1 : List Nod) (x56 : (List Int)) : ∀ (n : Nat) (x46 : List Int) (i47 : Int), spec_pathTo_L1 x1 n x46 i47 = some x56 → WL EE ⟨w, X, θ, 20, 1⟩ (subC [1, 1, 0, 4, 4] (bodyC Try.f78)) (fun (e : Exit) (s : St) => e = .exit 0 ∧ s = ⟨[(5, .one (.e (.sl 1 0 x56.length)))], [.row .nod x1 false, .row .int x56 true]⟩) ⟨[(0, .one (.e (.sl 0 0 x1.length))), (1, I i47), (5, .one (.e (.sl 1 0 x46.length)))], [.row .nod x1 false, .row .int x46 true]⟩ := by
  intro n
  induction n with
  | zero => intro _ _ h; exact none_e h
  | succ n ih =>
    intro x46 i47 h
    rw [spec_pathTo_L1] at h
    refine WL_round ?_
    refine W_seq ?_
    refine W_seq ?_
    refine W_region ?_
    refine WO_step 2 [0, 1] [0, 1, 5, 9] (True ∧ True) ⟨[(0, .one (.e (.sl 0 0 x1.length))), (1, I i47), (5, .one (.e (.sl 1 0 x46.length))), (9, B (decide (0 < i47)))], [.row .nod x1 false, .row .int x46 true]⟩ (by kernel_rfl) ⟨trivial, trivial⟩ ?_
    refine WO_nil rfl ?_
    refine thenS_n ?_
    refine iteO_e h (fun hb59 h => W_true rfl hb59 ?_) (fun hb59 h => W_false rfl hb59 ?_)
    · refine W_sub [0, 1] [0, 1, 5] (st' := ⟨[(0, .one (.e (.sl 0 0 x1.length))), (1, I i47), (5, .one (.e (.sl 1 0 x46.length)))], [.row .nod x1 false, .row .int x46 true]⟩) (by kernel_rfl) ?_
      refine W_skip ?_
      refine thenS_n ?_
      refine W_block ?_
      refine W_seq ?_
      refine W_region ?_
      refine guardO_e h (fun hg62 h => ?_)
      refine WO_step 6 [0, 1] [0, 1, 5] ((0 ≤ i47 ∧ i47 < ((x1.length : Nat) : Int)) ∧ (True ∧ True)) ⟨[(0, .one (.e (.sl 0 0 x1.length))), (1, I ((x1.getD i47.toNat dnod).parent)), (5, .one (.e (.sl 1 0 x46.length)))], [.row .nod x1 false, .row .int x46 true]⟩ (by kernel_rfl) ⟨hg62, trivial, trivial⟩ ?_
      refine WO_nil rfl ?_
      refine thenS_n ?_
      refine W_region ?_
      refine guardO_e h (fun hg63 h => ?_)
      refine WO_step 5 [0, 3] [0, 1, 5] ((0 = 0 ∧ [(x1.getD i47.toNat dnod).parent].length = [(x1.getD i47.toNat dnod).parent].length ∧ [(x1.getD i47.toNat dnod).parent].length + ((x46.drop 0).take x46.length).length ≤ 1099511627776) ∧ True) ⟨[(0, .one (.e (.sl 0 0 x1.length))), (1, I ((x1.getD i47.toNat dnod).parent)), (5, .one (.e (.sl 1 0 (([(x1.getD i47.toNat dnod).parent] ++ ((x46.drop 0).take x46.length)).length))))], [.row .nod x1 false, .row .int ([(x1.getD i47.toNat dnod).parent] ++ ((x46.drop 0).take x46.length)) true]⟩ (by kernel_rfl) ⟨hg63, trivial⟩ ?_
      refine WO_nil rfl ?_
      refine blockS_n ?_
      refine thenS_n ?_
      exact ih _ _ h
    · refine W_sub [0, 1] [5] (st' := ⟨[(5, .one (.e (.sl 1 0 x46.length)))], [.row .nod x1 false, .row .int x46 true]⟩) (by kernel_rfl) ?_
      refine W_exit ?_
      refine thenS_e ?_
      refine thenS_e ?_
      cases h
      exact And.intro rfl rfl

def spec_pathTo (n : Nat) (x1 : List Nod) (i2 : Int) : Option ((List Int)) :=
 bindO (spec_pathTo_L1 x1 n [i2] i2) fun x56 =>
 some x56

theorem spec_pathTo_ok (n : Nat) (x1 : List Nod) (i2 : Int) (x33 : List Int) (h : spec_pathTo n x1 i2 = some x33) : FOk EE 78 [.one (.e (.sl 0 0 x1.length)), I i2] [.row .nod x1 false] (.one (.e (.sl 1 0 x33.length))) [.row .nod x1 false, .row .int x33 true] := by
  unfold spec_pathTo at h
  refine FOk_of_W 20 1 Try.func78 rfl rfl (Nat.le_of_ble_eq_true rfl) rfl (fun w X θ => ?_)
  refine W_seq ?_
  refine W_region ?_
  refine WO_step 1 [0] [0, 1] True ⟨[(0, .one (.e (.sl 0 0 x1.length))), (1, I i2)], [.row .nod x1 false]⟩ (by kernel_rfl) trivial ?_
  refine WO_nil rfl ?_
  refine thenS_n ?_
  refine W_seq ?_
  refine W_region ?_
  refine WO_step 3 [0, 1] [0, 1, 5] True ⟨[(0, .one (.e (.sl 0 0 x1.length))), (1, I i2), (5, .one (.e (.sl 1 0 ([i2].length))))], [.row .nod x1 false, .row .int [i2] true]⟩ (by kernel_rfl) trivial ?_
  refine WO_nil rfl ?_
  refine thenS_n ?_
  refine W_seq ?_
  refine W_block ?_
  refine W_loop ?_
  refine bindO_e h (fun x56 hx56 h => ?_)
  refine WL_cut (spec_pathTo_L1_ok w X θ x1 x56 n [i2] i2 hx56) ?_
  rintro _ _ ⟨rfl, rfl⟩
  refine blockS_y ?_
  refine thenS_n ?_
  refine W_seq ?_
  refine W_region ?_
  refine WO_step 2 [0, 1] [4] True ⟨[(4, .one (.e (.sl 1 0 x56.length)))], [.row .nod x1 false, .row .int x56 true]⟩ (by kernel_rfl) trivial ?_
  refine WO_nil rfl ?_
  refine thenS_n ?_
  refine W_ret ?_
  cases h
  exact ⟨[0, 1], True, by kernel_rfl, trivial⟩

/- spec.pathText -/
def spec_pathText_L1 (x1 : List Nod) (i2 : Int) (x48 : List Int) : Nat → Str → Int → Option (Str)
| 0, _, _ => none
| n + 1, s66, i67 =>
 iteO (decide (i67 < ((x48.length : Nat) : Int)))
 (guardO (s66.length + [47].length ≤ 1099511627776) <|
 guardO (0 ≤ i67 ∧ i67 < ((x48.length : Nat) : Int)) <|
 guardO (0 ≤ (x48.getD i67.toNat 0) ∧ (x48.getD i67.toNat 0) < ((x1.length : Nat) : Int)) <|
 guardO ((s66 ++ [47]).length + ((x1.getD ((x48.getD i67.toNat 0).toNat) dnod).name).length ≤ 1099511627776) <|
 spec_pathText_L1 x1 i2 x48 n ((s66 ++ [47]) ++ ((x1.getD ((x48.getD i67.toNat 0).toNat) dnod).name)) (w64 (i67 + 1)))
 (some s66)

theorem spec_pathText_L1_ok (w : World) (X : Nat → Prop) (θ : List Loc) (x1 : List Nod) (i2 : Int) (x48 : List Int) (s80 : Str) : ∀ (n : Nat) (s66 : Str) (i67 : Int), spec_pathText_L1 x1 i2 x48 n s66 i67 = some s80 → WL EE ⟨w, X, θ, 31, 1⟩ (subC [1, 1, 1, 0, 1, 4, 4] (bodyC Try.f56)) (fun (e : Exit) (s : St) => e = .exit 0 ∧ s = ⟨[(1, I i2), (5, S s80)], [.row .nod x1 false]⟩) ⟨[(0, .one (.e (.sl 0 0 x1.length))), (1, I i2), (5, S s66), (6, .one (.e (.sl 1 0 x48.length))), (7, I i67)], [.row .nod x1 false, .row .int x48 true]⟩ := by
  intro n
  induction n with
  | zero => intro _ _ h; exact none_e h
  | succ n ih =>
    intro s66 i67 h
    rw [spec_pathText_L1] at h
    refine WL_round ?_
    refine W_seq ?_
    refine W_seq ?_
    refine W_region ?_
    refine WO_step 4 [0, 1] [0, 1, 5, 6, 7, 14] (True ∧ (True ∧ True)) ⟨[(0, .one (.e (.sl 0 0 x1.length))), (1, I i2), (5, S s66), (6, .one (.e (.sl 1 0 x48.length))), (7, I i67), (14, B (decide (i67 < ((x48.length : Nat) : Int))))], [.row .nod x1 false, .row .int x48 true]⟩ (by kernel_rfl) ⟨trivial, trivial, trivial⟩ ?_
    refine WO_nil rfl ?_
    refine thenS_n ?_
    refine iteO_e h (fun hb83 h => W_true rfl hb83 ?_) (fun hb83 h => W_false rfl hb83 ?_)
    · refine W_sub [0, 1] [0, 1, 5, 6, 7] (st' := ⟨[(0, .one (.e (.sl 0 0 x1.length))), (1, I i2), (5, S s66), (6, .one (.e (.sl 1 0 x48.length))), (7, I i67)], [.row .nod x1 false, .row .int x48 true]⟩) (by kernel_rfl) ?_
      refine W_skip ?_
      refine thenS_n ?_
      refine W_seq ?_
      refine W_block ?_
      refine W_region ?_
      refine guardO_e h (fun hg88 h => ?_)
      refine guardO_e h (fun hg89 h => ?_)
      refine guardO_e h (fun hg90 h => ?_)
      refine guardO_e h (fun hg91 h => ?_)
      refine WO_step 12 [0, 1] [0, 1, 5, 6, 7] ((s66.length + [47].length ≤ 1099511627776) ∧ ((0 ≤ i67 ∧ i67 < ((x48.length : Nat) : Int)) ∧ (True ∧ ((0 ≤ (x48.getD i67.toNat 0) ∧ (x48.getD i67.toNat 0) < ((x1.length : Nat) : Int)) ∧ (True ∧ (((s66 ++ [47]).length + ((x1.getD ((x48.getD i67.toNat 0).toNat) dnod).name).length ≤ 1099511627776) ∧ True)))))) ⟨[(0, .one (.e (.sl 0 0 x1.length))), (1, I i2), (5, S ((s66 ++ [47]) ++ ((x1.getD ((x48.getD i67.toNat 0).toNat) dnod).name))), (6, .one (.e (.sl 1 0 x48.length))), (7, I i67)], [.row .nod x1 false, .row .int x48 true]⟩ (by kernel_rfl) ⟨hg88, hg89, trivial, hg90, trivial, hg91, trivial⟩ ?_
      refine WO_nil rfl ?_
      refine blockS_n ?_
      refine thenS_n ?_
      refine W_region ?_
      refine WO_step 3 [0, 1] [0, 1, 5, 6, 7] (True ∧ True) ⟨[(0, .one (.e (.sl 0 0 x1.length))), (1, I i2), (5, S ((s66 ++ [47]) ++ ((x1.getD ((x48.getD i67.toNat 0).toNat) dnod).name))), (6, .one (.e (.sl 1 0 x48.length))), (7, I (w64 (i67 + 1)))], [.row .nod x1 false, .row .int x48 true]⟩ (by kernel_rfl) ⟨trivial, trivial⟩ ?_
      refine WO_nil rfl ?_
      refine thenS_n ?_
      exact ih _ _ h
    · refine W_sub [0] [1, 5] (st' := ⟨[(1, I i2), (5, S s66)], [.row .nod x1 false]⟩) (by kernel_rfl) ?_
      refine W_exit ?_
      refine thenS_e ?_
      refine thenS_e ?_
      cases h
      exact And.intro rfl rfl

def spec_pathText (n : Nat) (x1 : List Nod) (i2 : Int) : Option (Str) :=
 bindO (spec_pathTo n x1 i2) fun x48 =>
 bindO (spec_pathText_L1 x1 i2 x48 n [] 1) fun s80 =>
 iteO (decide (i2 = 0))
 (some [47])
 (some s80)

theorem spec_pathText_ok (n : Nat) (x1 : List Nod) (i2 : Int) (s47 : Str) (h : spec_pathText n x1 i2 = some s47) : FOk EE 56 [.one (.e (.sl 0 0 x1.length)), I i2] [.row .nod x1 false] (S s47) [.row .nod x1 false] := by
  unfold spec_pathText at h
  refine FOk_of_W 31 1 Try.func56 rfl rfl (Nat.le_of_ble_eq_true rfl) rfl (fun w X θ => ?_)
  refine W_seq ?_
  refine W_region ?_
  refine WO_step 1 [0] [0, 1] True ⟨[(0, .one (.e (.sl 0 0 x1.length))), (1, I i2)], [.row .nod x1 false]⟩ (by kernel_rfl) trivial ?_
  refine WO_nil rfl ?_
  refine thenS_n ?_
  refine W_seq ?_
  refine W_region ?_
  refine WO_step 1 [0] [0, 1, 5] True ⟨[(0, .one (.e (.sl 0 0 x1.length))), (1, I i2), (5, S [])], [.row .nod x1 false]⟩ (by kernel_rfl) trivial ?_
  refine WO_nil rfl ?_
  refine thenS_n ?_
  refine W_seq ?_
  refine W_region ?_
  refine WO_step 2 [0] [0, 1, 5, 8, 9] True ⟨[(0, .one (.e (.sl 0 0 x1.length))), (1, I i2), (5, S []), (8, .one (.e (.sl 0 0 x1.length))), (9, I i2)], [.row .nod x1 false]⟩ (by kernel_rfl) trivial ?_
  refine bindO_e h (fun x48 hc49 h => ?_)
  refine WO_call [.ro 0] Try.f78 rfl rfl rfl (by kernel_rfl) Try.func78 rfl (by kernel_rfl) (spec_pathTo_ok n x1 i2 x48 hc49) (And.intro (And.intro rfl rfl) (trivial)) rfl ?_
  refine WO_step 1 [0, 1] [0, 1, 5, 6] True ⟨[(0, .one (.e (.sl 0 0 x1.length))), (1, I i2), (5, S []), (6, .one (.e (.sl 1 0 x48.length)))], [.row .nod x1 false, .row .int x48 true]⟩ (by kernel_rfl) trivial ?_
  refine WO_nil rfl ?_
  refine thenS_n ?_
  refine W_seq ?_
  refine W_seq ?_
  refine W_region ?_
  refine WO_step 1 [0, 1] [0, 1, 5, 6, 7] True ⟨[(0, .one (.e (.sl 0 0 x1.length))), (1, I i2), (5, S []), (6, .one (.e (.sl 1 0 x48.length))), (7, I 1)], [.row .nod x1 false, .row .int x48 true]⟩ (by kernel_rfl) trivial ?_
  refine WO_nil rfl ?_
  refine thenS_n ?_
  refine W_block ?_
  refine W_loop ?_
  refine bindO_e h (fun s80 hs80 h => ?_)
  refine WL_cut (spec_pathText_L1_ok w X θ x1 i2 x48 s80 n [] 1 hs80) ?_
  rintro _ _ ⟨rfl, rfl⟩
  refine blockS_y ?_
  refine thenS_n ?_
  refine W_seq ?_
  refine W_seq ?_
  refine W_region ?_
  refine WO_step 2 [0] [5, 29] (True ∧ True) ⟨[(5, S s80), (29, B (decide (i2 = 0)))], [.row .nod x1 false]⟩ (by kernel_rfl) ⟨trivial, trivial⟩ ?_
  refine WO_nil rfl ?_
  refine thenS_n ?_
  refine iteO_e h (fun hb94 h => W_true rfl hb94 ?_) (fun hb94 h => W_false rfl hb94 ?_)
  · refine W_seq ?_
    refine W_region ?_
    refine WO_step 1 [0] [4] True ⟨[(4, S [47])], [.row .nod x1 false]⟩ (by kernel_rfl) trivial ?_
    refine WO_nil rfl ?_
    refine thenS_n ?_
    refine W_ret ?_
    refine thenS_r ?_
    cases h
    exact ⟨[0], True, by kernel_rfl, trivial⟩
  · refine W_sub [0] [5] (st' := ⟨[(5, S s80)], [.row .nod x1 false]⟩) (by kernel_rfl) ?_
    refine W_skip ?_
    refine thenS_n ?_
    refine W_seq ?_
    refine W_region ?_
    refine WO_step 2 [0] [4] True ⟨[(4, S s80)], [.row .nod x1 false]⟩ (by kernel_rfl) trivial ?_
    refine WO_nil rfl ?_
    refine thenS_n ?_
    refine W_ret ?_
    cases h
    exact ⟨[0], True, by kernel_rfl, trivial⟩

/- spec.resolve -/
def spec_resolve_L1 (x1 : List Nod) (s2 : Str) : Nat → Int → Option ((Int) ⊕ (Unit))
| 0, _ => none
| n + 1, i56 =>
 iteO (decide (i56 < ((x1.length : Nat) : Int)))
 (bindO (spec_pathText n x1 i56) fun s76 =>
 iteO (decide (s76 = s2))
 (some (.inl i56))
 (spec_resolve_L1 x1 s2 n (w64 (i56 + 1))))
 (some (.inr ()))

theorem spec_resolve_L1_ok (w : World) (X : Nat → Prop) (θ : List Loc) (x1 : List Nod) (s2 : Str) (v : (Int) ⊕ (Unit)) : ∀ (n : Nat) (i56 : Int), spec_resolve_L1 x1 s2 n i56 = some v → WL EE ⟨w, X, θ, 18, 1⟩ (subC [1, 0, 1, 4, 4] (bodyC Try.f55)) (fun (e : Exit) (s : St) => (match v with | (.inl i68) => e = .ret ∧ s = ⟨[(4, I i68)], [.row .nod x1 false]⟩ | (.inr _) => e = .exit 0 ∧ s = ⟨[], [.row .nod x1 false]⟩ : Prop)) ⟨[(0, .one (.e (.sl 0 0 x1.length))), (1, S s2), (5, I i56)], [.row .nod x1 false]⟩ := by
  intro n
  induction n with
  | zero => intro _ h; exact none_e h
  | succ n ih =>
    intro i56 h
    rw [spec_resolve_L1] at h
    refine WL_round ?_
    refine W_seq ?_
    refine W_seq ?_
    refine W_region ?_
    refine WO_step 4 [0] [0, 1, 5, 9] (True ∧ (True ∧ True)) ⟨[(0, .one (.e (.sl 0 0 x1.length))), (1, S s2), (5, I i56), (9, B (decide (i56 < ((x1.length : Nat) : Int))))], [.row .nod x1 false]⟩ (by kernel_rfl) ⟨trivial, trivial, trivial⟩ ?_
    refine WO_nil rfl ?_
    refine thenS_n ?_
    refine iteO_e h (fun hb71 h => W_true rfl hb71 ?_) (fun hb71 h => W_false rfl hb71 ?_)
    · refine W_sub [0] [0, 1, 5] (st' := ⟨[(0, .one (.e (.sl 0 0 x1.length))), (1, S s2), (5, I i56)], [.row .nod x1 false]⟩) (by kernel_rfl) ?_
      refine W_skip ?_
      refine thenS_n ?_
      refine W_seq ?_
      refine W_block ?_
      refine W_seq ?_
      refine W_region ?_
      refine WO_step 2 [0] [0, 1, 5, 12, 13] True ⟨[(0, .one (.e (.sl 0 0 x1.length))), (1, S s2), (5, I i56), (12, .one (.e (.sl 0 0 x1.length))), (13, I i56)], [.row .nod x1 false]⟩ (by kernel_rfl) trivial ?_
      refine bindO_e h (fun s76 hc77 h => ?_)
      refine WO_call [.ro 0] Try.f56 rfl rfl rfl (by kernel_rfl) Try.func56 rfl (by kernel_rfl) (spec_pathText_ok n x1 i56 s76 hc77) (And.intro (And.intro rfl rfl) (trivial)) rfl ?_
      refine WO_step 2 [0] [0, 1, 5, 16] (True ∧ True) ⟨[(0, .one (.e (.sl 0 0 x1.length))), (1, S s2), (5, I i56), (16, B (decide (s76 = s2)))], [.row .nod x1 false]⟩ (by kernel_rfl) ⟨trivial, trivial⟩ ?_
      refine WO_nil rfl ?_
      refine thenS_n ?_
      refine iteO_e h (fun hb79 h => W_true rfl hb79 ?_) (fun hb79 h => W_false rfl hb79 ?_)
      · refine W_seq ?_
        refine W_region ?_
        refine WO_step 2 [0] [4] True ⟨[(4, I i56)], [.row .nod x1 false]⟩ (by kernel_rfl) trivial ?_
        refine WO_nil rfl ?_
        refine thenS_n ?_
        refine W_ret ?_
        refine blockS_r ?_
        refine thenS_r ?_
        refine thenS_r ?_
        cases h
        exact And.intro rfl rfl
      · refine W_sub [0] [0, 1, 5] (st' := ⟨[(0, .one (.e (.sl 0 0 x1.length))), (1, S s2), (5, I i56)], [.row .nod x1 false]⟩) (by kernel_rfl) ?_
        refine W_skip ?_
        refine blockS_n ?_
        refine thenS_n ?_
        refine W_region ?_
        refine WO_step 3 [0] [0, 1, 5] (True ∧ True) ⟨[(0, .one (.e (.sl 0 0 x1.length))), (1, S s2), (5, I (w64 (i56 + 1)))], [.row .nod x1 false]⟩ (by kernel_rfl) ⟨trivial, trivial⟩ ?_
        refine WO_nil rfl ?_
        refine thenS_n ?_
        exact ih _ h
    · refine W_sub [0] [] (st' := ⟨[], [.row .nod x1 false]⟩) (by kernel_rfl) ?_
      refine W_exit ?_
      refine thenS_e ?_
      refine thenS_e ?_
      cases h
      exact And.intro rfl rfl

def spec_resolve (n : Nat) (x1 : List Nod) (s2 : Str) : Option (Int) :=
 bindO (spec_resolve_L1 x1 s2 n 0) fun v80 =>
 match v80 with
 | (.inl i68) => (some i68)
 | (.inr _) => (some (-1))


theorem spec_resolve_ok (n : Nat) (x1 : List Nod) (s2 : Str) (i41 : Int) (h : spec_resolve n x1 s2 = some i41) : FOk EE 55 [.one (.e (.sl 0 0 x1.length)), S s2] [.row .nod x1 false] (I i41) [.row .nod x1 false] := by
  unfold spec_resolve at h
  refine FOk_of_W 18 1 Try.func55 rfl rfl (Nat.le_of_ble_eq_true rfl) rfl (fun w X θ => ?_)
  refine W_seq ?_
  refine W_region ?_
  refine WO_step 1 [0] [0, 1] True ⟨[(0, .one (.e (.sl 0 0 x1.length))), (1, S s2)], [.row .nod x1 false]⟩ (by kernel_rfl) trivial ?_
  refine WO_nil rfl ?_
  refine thenS_n ?_
  refine W_seq ?_
  refine W_seq ?_
  refine W_region ?_
  refine WO_step 1 [0] [0, 1, 5] True ⟨[(0, .one (.e (.sl 0 0 x1.length))), (1, S s2), (5, I 0)], [.row .nod x1 false]⟩ (by kernel_rfl) trivial ?_
  refine WO_nil rfl ?_
  refine thenS_n ?_
  refine W_block ?_
  refine W_loop ?_
  refine bindO_e h (fun v80 hv80 h => ?_)
  refine WL_cut (spec_resolve_L1_ok w X θ x1 s2 v80 n 0 hv80) ?_
  rcases v80 with i68 | _
  · rintro _ _ ⟨rfl, rfl⟩
    refine blockS_r ?_
    refine thenS_r ?_
    cases h
    exact ⟨[0], True, by kernel_rfl, trivial⟩
  · rintro _ _ ⟨rfl, rfl⟩
    refine blockS_y ?_
    refine thenS_n ?_
    refine W_seq ?_
    refine W_region ?_
    refine WO_step 1 [0] [4] True ⟨[(4, I (-1))], [.row .nod x1 false]⟩ (by kernel_rfl) trivial ?_
    refine WO_nil rfl ?_
    refine thenS_n ?_
    refine W_ret ?_
    cases h
    exact ⟨[0], True, by kernel_rfl, trivial⟩

/- spec.entries -/
def spec_entries_L1 (x1 : List Nod) (x59 : List Int) : Nat → (List Edt) → Int → Option ((List Edt))
| 0, _, _ => none
| n + 1, x81, i82 =>
 iteO (decide (i82 < ((x59.length : Nat) : Int)))
 (guardO (0 ≤ i82 ∧ i82 < ((x59.length : Nat) : Int)) <|
 bindO (spec_pathText n x1 (x59.getD i82.toNat 0)) fun s110 =>
 guardO (0 ≤ i82 ∧ i82 < ((x59.length : Nat) : Int)) <|
 guardO (0 ≤ (x59.getD i82.toNat 0) ∧ (x59.getD i82.toNat 0) < ((x1.length : Nat) : Int)) <|
 guardO (0 = 0 ∧ x81.length = x81.length ∧ x81.length + (([(⟨0, s110, (x1.getD ((x59.getD i82.toNat 0).toNat) dnod).value⟩ : Edt)].drop 0).take ([(⟨0, s110, (x1.getD ((x59.getD i82.toNat 0).toNat) dnod).value⟩ : Edt)].length)).length ≤ 1099511627776) <|
 spec_entries_L1 x1 x59 n (x81 ++ (([(⟨0, s110, (x1.getD ((x59.getD i82.toNat 0).toNat) dnod).value⟩ : Edt)].drop 0).take ([(⟨0, s110, (x1.getD ((x59.getD i82.toNat 0).toNat) dnod).value⟩ : Edt)].length))) (w64 (i82 + 1)))
 (some x81)

theorem spec_entries_L1_ok (w : World) (X : Nat → Prop) (θ : List Loc) (x1 : List Nod) (x59 : List Int) (x99 : (List Edt)) : ∀ (n : Nat) (x81 : List Edt) (i82 : Int), spec_entries_L1 x1 x59 n x81 i82 = some x99 → WL EE ⟨w, X, θ, 34, 1⟩ (subC [1, 1, 1, 0, 1, 4, 4] (bodyC Try.f57)) (fun (e : Exit) (s : St) => e = .exit 0 ∧ s = ⟨[(3, .one (.e (.sl 1 0 x99.length)))], [.row .nod x1 false, .row .edt x99 true]⟩) ⟨[(0, .one (.e (.sl 0 0 x1.length))), (3, .one (.e (.sl 1 0 x81.length))), (4, .one (.e (.sl 2 0 x59.length))), (5, I i82)], [.row .nod x1 false, .row .edt x81 true, .row .int x59 true]⟩ := by
  intro n
  induction n with
  | zero => intro _ _ h; exact none_e h
  | succ n ih =>
    intro x81 i82 h
    rw [spec_entries_L1] at h
    refine WL_round ?_
    refine W_seq ?_
    refine W_seq ?_
    refine W_region ?_
    refine WO_step 4 [0, 1, 2] [0, 3, 4, 5, 12] (True ∧ (True ∧ True)) ⟨[(0, .one (.e (.sl 0 0 x1.length))), (3, .one (.e (.sl 1 0 x81.length))), (4, .one (.e (.sl 2 0 x59.length))), (5, I i82), (12, B (decide (i82 < ((x59.length : Nat) : Int))))], [.row .nod x1 false, .row .edt x81 true, .row .int x59 true]⟩ (by kernel_rfl) ⟨trivial, trivial, trivial⟩ ?_
    refine WO_nil rfl ?_
    refine thenS_n ?_
    refine iteO_e h (fun hb102 h => W_true rfl hb102 ?_) (fun hb102 h => W_false rfl hb102 ?_)
    · refine W_sub [0, 1, 2] [0, 3, 4, 5] (st' := ⟨[(0, .one (.e (.sl 0 0 x1.length))), (3, .one (.e (.sl 1 0 x81.length))), (4, .one (.e (.sl 2 0 x59.length))), (5, I i82)], [.row .nod x1 false, .row .edt x81 true, .row .int x59 true]⟩) (by kernel_rfl) ?_
      refine W_skip ?_
      refine thenS_n ?_
      refine W_seq ?_
      refine W_block ?_
      refine guardO_e h (fun hg109 h => ?_)
      refine bindO_e h (fun s110 hc111 h => ?_)
      refine guardO_e h (fun hg112 h => ?_)
      refine guardO_e h (fun hg113 h => ?_)
      refine guardO_e h (fun hg114 h => ?_)
      refine W_cut (Q' := fun (e : Exit) (s : St) => e = .normal ∧ s = ⟨[(0, .one (.e (.sl 0 0 x1.length))), (3, .one (.e (.sl 1 0 ((x81 ++ (([(⟨0, s110, (x1.getD ((x59.getD i82.toNat 0).toNat) dnod).value⟩ : Edt)].drop 0).take ([(⟨0, s110, (x1.getD ((x59.getD i82.toNat 0).toNat) dnod).value⟩ : Edt)].length))).length)))), (4, .one (.e (.sl 2 0 x59.length))), (5, I i82)], [.row .nod x1 false, .row .edt (x81 ++ (([(⟨0, s110, (x1.getD ((x59.getD i82.toNat 0).toNat) dnod).value⟩ : Edt)].drop 0).take ([(⟨0, s110, (x1.getD ((x59.getD i82.toNat 0).toNat) dnod).value⟩ : Edt)].length))) true, .row .int x59 true]⟩) ?_ ?_
      · refine W_draw [1] false (by kernel_rfl) (by kernel_rfl) ?_
        refine WD_takeK [0, 1, 2, 3, 4, 5, 7, 8, 9, 10, 11, 12, 13, 14] [0, 3, 4, 5, 15, 16, 20, 29] [0, 3, 4, 5, 15, 16, 20, 29] (φ := ((0 ≤ i82 ∧ i82 < ((x59.length : Nat) : Int)) ∧ (0 ≤ i82 ∧ i82 < ((x59.length : Nat) : Int)) ∧ (True ∧ True ∧ ((0 ≤ i82 ∧ i82 < ((x59.length : Nat) : Int)) ∧ (0 ≤ i82 ∧ i82 < ((x59.length : Nat) : Int)) ∧ (True ∧ True ∧ ((0 ≤ (x59.getD i82.toNat 0) ∧ (x59.getD i82.toNat 0) < ((x1.length : Nat) : Int)) ∧ (0 ≤ (x59.getD i82.toNat 0) ∧ (x59.getD i82.toNat 0) < ((x1.length : Nat) : Int)) ∧ (True ∧ True ∧ True))))))) (ls' := #[true, true, true, true, true, true, false, true, true, true, true, true, true, true, true, false, false, false, false]) (Ts' := [(0, .one (.e (.sl 0 0 x1.length))), (3, .one (.e (.sl 1 0 x81.length))), (4, .one (.e (.sl 2 0 x59.length))), (5, I i82), (15, .one (.e (.sl 1 0 x81.length))), (16, .one (.e (.sl 0 0 x1.length))), (20, I (x59.getD i82.toNat 0)), (29, I ((x1.getD ((x59.getD i82.toNat 0).toNat) dnod).value))]) (st' := ⟨[(0, .one (.e (.sl 0 0 x1.length))), (3, .one (.e (.sl 1 0 x81.length))), (4, .one (.e (.sl 2 0 x59.length))), (5, I i82), (15, .one (.e (.sl 1 0 x81.length))), (16, .one (.e (.sl 0 0 x1.length))), (20, I (x59.getD i82.toNat 0)), (29, I ((x1.getD ((x59.getD i82.toNat 0).toNat) dnod).value))], [.row .nod x1 false, .row .edt x81 true, .row .int x59 true]⟩) (n2 := 5) (by kernel_rfl) ⟨hg109, hg109, trivial, trivial, hg112, hg112, trivial, trivial, hg113, hg113, trivial, trivial, trivial⟩ rfl ?_
        refine WD_all [6] (n := 4) (by kernel_rfl) rfl ?_
        refine WM_call [.ro 0] Try.f56 rfl rfl (by kernel_rfl) Try.func56 rfl (by kernel_rfl) (spec_pathText_ok n x1 (x59.getD i82.toNat 0) s110 hc111) (And.intro (And.intro rfl rfl) (trivial)) rfl (And.intro rfl (And.intro rfl (trivial))) ?_
        refine WD_takeK [15] [0, 3, 4, 5, 15, 30] [0, 3, 4, 5, 15, 30] (φ := True) (ls' := #[true, true, true, true, true, true, true, true, true, true, true, true, true, true, true, true, false, false, false]) (Ts' := [(0, .one (.e (.sl 0 0 x1.length))), (3, .one (.e (.sl 1 0 x81.length))), (4, .one (.e (.sl 2 0 x59.length))), (5, I i82), (15, .one (.e (.sl 1 0 x81.length))), (30, AGG [cI 0, cS s110, cI ((x1.getD ((x59.getD i82.toNat 0).toNat) dnod).value)])]) (st' := ⟨[(0, .one (.e (.sl 0 0 x1.length))), (3, .one (.e (.sl 1 0 x81.length))), (4, .one (.e (.sl 2 0 x59.length))), (5, I i82), (15, .one (.e (.sl 1 0 x81.length))), (30, AGG [cI 0, cS s110, cI ((x1.getD ((x59.getD i82.toNat 0).toNat) dnod).value)])], [.row .nod x1 false, .row .edt x81 true, .row .int x59 true]⟩) (n2 := 3) (by kernel_rfl) trivial rfl ?_
        refine WD_all [16] (n := 2) (by kernel_rfl) rfl ?_
        refine WM_op (φ := True) (v := .one (.e (.sl 3 0 ([(⟨0, s110, (x1.getD ((x59.getD i82.toNat 0).toNat) dnod).value⟩ : Edt)].length)))) (H' := [.row .nod x1 false, .row .edt x81 true, .row .int x59 true, .row .edt [(⟨0, s110, (x1.getD ((x59.getD i82.toNat 0).toNat) dnod).value⟩ : Edt)] true]) rfl rfl (by kernel_rfl) trivial rfl (And.intro rfl (And.intro rfl (trivial))) ?_
        refine WD_all [17] (n := 1) (by kernel_rfl) rfl ?_
        refine WM_op (φ := 0 = 0 ∧ x81.length = x81.length ∧ x81.length + (([(⟨0, s110, (x1.getD ((x59.getD i82.toNat 0).toNat) dnod).value⟩ : Edt)].drop 0).take ([(⟨0, s110, (x1.getD ((x59.getD i82.toNat 0).toNat) dnod).value⟩ : Edt)].length)).length ≤ 1099511627776) (v := .one (.e (.sl 4 0 ((x81 ++ (([(⟨0, s110, (x1.getD ((x59.getD i82.toNat 0).toNat) dnod).value⟩ : Edt)].drop 0).take ([(⟨0, s110, (x1.getD ((x59.getD i82.toNat 0).toNat) dnod).value⟩ : Edt)].length))).length)))) (H' := [.row .nod x1 false, .dead, .row .int x59 true, .row .edt [(⟨0, s110, (x1.getD ((x59.getD i82.toNat 0).toNat) dnod).value⟩ : Edt)] true, .row .edt (x81 ++ (([(⟨0, s110, (x1.getD ((x59.getD i82.toNat 0).toNat) dnod).value⟩ : Edt)].drop 0).take ([(⟨0, s110, (x1.getD ((x59.getD i82.toNat 0).toNat) dnod).value⟩ : Edt)].length))) true]) rfl rfl (by kernel_rfl) hg114 rfl (And.intro rfl (And.intro rfl (trivial))) ?_
        refine WD_all [18] (n := 0) (by kernel_rfl) rfl ?_
        refine WM_op (φ := True) (v := .one (.e (.sl 4 0 ((x81 ++ (([(⟨0, s110, (x1.getD ((x59.getD i82.toNat 0).toNat) dnod).value⟩ : Edt)].drop 0).take ([(⟨0, s110, (x1.getD ((x59.getD i82.toNat 0).toNat) dnod).value⟩ : Edt)].length))).length)))) (H' := [.row .nod x1 false, .dead, .row .int x59 true, .row .edt [(⟨0, s110, (x1.getD ((x59.getD i82.toNat 0).toNat) dnod).value⟩ : Edt)] true, .row .edt (x81 ++ (([(⟨0, s110, (x1.getD ((x59.getD i82.toNat 0).toNat) dnod).value⟩ : Edt)].drop 0).take ([(⟨0, s110, (x1.getD ((x59.getD i82.toNat 0).toNat) dnod).value⟩ : Edt)].length))) true]) rfl rfl (by kernel_rfl) trivial rfl (And.intro rfl (And.intro rfl (trivial))) ?_
        exact WD_done [0, 4, 2] [0, 3, 4, 5] (st' := ⟨[(0, .one (.e (.sl 0 0 x1.length))), (3, .one (.e (.sl 1 0 ((x81 ++ (([(⟨0, s110, (x1.getD ((x59.getD i82.toNat 0).toNat) dnod).value⟩ : Edt)].drop 0).take ([(⟨0, s110, (x1.getD ((x59.getD i82.toNat 0).toNat) dnod).value⟩ : Edt)].length))).length)))), (4, .one (.e (.sl 2 0 x59.length))), (5, I i82)], [.row .nod x1 false, .row .edt (x81 ++ (([(⟨0, s110, (x1.getD ((x59.getD i82.toNat 0).toNat) dnod).value⟩ : Edt)].drop 0).take ([(⟨0, s110, (x1.getD ((x59.getD i82.toNat 0).toNat) dnod).value⟩ : Edt)].length))) true, .row .int x59 true]⟩) (by kernel_rfl) (by kernel_rfl) (And.intro rfl rfl)
      · rintro _ _ ⟨rfl, rfl⟩
        refine blockS_n ?_
        refine thenS_n ?_
        refine W_region ?_
        refine WO_step 3 [0, 1, 2] [0, 3, 4, 5] (True ∧ True) ⟨[(0, .one (.e (.sl 0 0 x1.length))), (3, .one (.e (.sl 1 0 ((x81 ++ (([(⟨0, s110, (x1.getD ((x59.getD i82.toNat 0).toNat) dnod).value⟩ : Edt)].drop 0).take ([(⟨0, s110, (x1.getD ((x59.getD i82.toNat 0).toNat) dnod).value⟩ : Edt)].length))).length)))), (4, .one (.e (.sl 2 0 x59.length))), (5, I (w64 (i82 + 1)))], [.row .nod x1 false, .row .edt (x81 ++ (([(⟨0, s110, (x1.getD ((x59.getD i82.toNat 0).toNat) dnod).value⟩ : Edt)].drop 0).take ([(⟨0, s110, (x1.getD ((x59.getD i82.toNat 0).toNat) dnod).value⟩ : Edt)].length))) true, .row .int x59 true]⟩ (by kernel_rfl) ⟨trivial, trivial⟩ ?_
        refine WO_nil rfl ?_
        refine thenS_n ?_
        exact ih _ _ h
    · refine W_sub [0, 1] [3] (st' := ⟨[(3, .one (.e (.sl 1 0 x81.length)))], [.row .nod x1 false, .row .edt x81 true]⟩) (by kernel_rfl) ?_
      refine W_exit ?_
      refine thenS_e ?_
      refine thenS_e ?_
      cases h
      exact And.intro rfl rfl

def spec_entries (n : Nat) (x1 : List Nod) : Option ((List Edt)) :=
 bindO (spec_walk n x1 0) fun x59 =>
 bindO (spec_entries_L1 x1 x59 n ([] : List Edt) 0) fun x99 =>
 some x99

theorem spec_entries_ok (n : Nat) (x1 : List Nod) (x58 : List Edt) (h : spec_entries n x1 = some x58) : FOk EE 57 [.one (.e (.sl 0 0 x1.length))] [.row .nod x1 false] (.one (.e (.sl 1 0 x58.length))) [.row .nod x1 false, .row .edt x58 true] := by
  unfold spec_entries at h
  refine FOk_of_W 34 1 Try.func57 rfl rfl (Nat.le_of_ble_eq_true rfl) rfl (fun w X θ => ?_)
  refine W_seq ?_
  refine W_region ?_
  refine WO_step 1 [0] [0] True ⟨[(0, .one (.e (.sl 0 0 x1.length)))], [.row .nod x1 false]⟩ (by kernel_rfl) trivial ?_
  refine WO_nil rfl ?_
  refine thenS_n ?_
  refine W_seq ?_
  refine W_region ?_
  refine WO_step 2 [0, 1] [0, 3] True ⟨[(0, .one (.e (.sl 0 0 x1.length))), (3, .one (.e (.sl 1 0 (([] : List Edt).length))))], [.row .nod x1 false, .row .edt ([] : List Edt) true]⟩ (by kernel_rfl) trivial ?_
  refine WO_nil rfl ?_
  refine thenS_n ?_
  refine W_seq ?_
  refine W_region ?_
  refine WO_step 1 [0, 1] [0, 3, 7] True ⟨[(0, .one (.e (.sl 0 0 x1.length))), (3, .one (.e (.sl 1 0 (([] : List Edt).length)))), (7, .one (.e (.sl 0 0 x1.length)))], [.row .nod x1 false, .row .edt ([] : List Edt) true]⟩ (by kernel_rfl) trivial ?_
  refine bindO_e h (fun x59 hc60 h => ?_)
  refine WO_call [.ro 0] Try.f54 rfl rfl rfl (by kernel_rfl) Try.func54 rfl (by kernel_rfl) (spec_walk_ok n x1 0 x59 hc60) (And.intro (And.intro rfl rfl) (trivial)) rfl ?_
  refine WO_step 1 [0, 1, 2] [0, 3, 4] True ⟨[(0, .one (.e (.sl 0 0 x1.length))), (3, .one (.e (.sl 1 0 (([] : List Edt).length)))), (4, .one (.e (.sl 2 0 x59.length)))], [.row .nod x1 false, .row .edt ([] : List Edt) true, .row .int x59 true]⟩ (by kernel_rfl) trivial ?_
  refine WO_nil rfl ?_
  refine thenS_n ?_
  refine W_seq ?_
  refine W_seq ?_
  refine W_region ?_
  refine WO_step 1 [0, 1, 2] [0, 3, 4, 5] True ⟨[(0, .one (.e (.sl 0 0 x1.length))), (3, .one (.e (.sl 1 0 (([] : List Edt).length)))), (4, .one (.e (.sl 2 0 x59.length))), (5, I 0)], [.row .nod x1 false, .row .edt ([] : List Edt) true, .row .int x59 true]⟩ (by kernel_rfl) trivial ?_
  refine WO_nil rfl ?_
  refine thenS_n ?_
  refine W_block ?_
  refine W_loop ?_
  refine bindO_e h (fun x99 hx99 h => ?_)
  refine WL_cut (spec_entries_L1_ok w X θ x1 x59 x99 n ([] : List Edt) 0 hx99) ?_
  rintro _ _ ⟨rfl, rfl⟩
  refine blockS_y ?_
  refine thenS_n ?_
  refine W_seq ?_
  refine W_region ?_
  refine WO_step 2 [0, 1] [2] True ⟨[(2, .one (.e (.sl 1 0 x99.length)))], [.row .nod x1 false, .row .edt x99 true]⟩ (by kernel_rfl) trivial ?_
  refine WO_nil rfl ?_
  refine thenS_n ?_
  refine W_ret ?_
  cases h
  exact ⟨[0, 1], True, by kernel_rfl, trivial⟩

/- spec.EditsBetween -/
def spec_EditsBetween_L1 (x1 : List Nod) (x2 : List Nod) (x296 : List Int) : Nat → (List Edt) → Int → Option ((List Edt))
| 0, _, _ => none
| n + 1, x356, i357 =>
 iteO (decide (i357 < ((x296.length : Nat) : Int)))
 (guardO (0 ≤ i357 ∧ i357 < ((x296.length : Nat) : Int)) <|
 bindO (spec_pathText n x1 (x296.getD i357.toNat 0)) fun s442 =>
 bindO (spec_resolve n x2 s442) fun i444 =>
 bindO (iteO (decide (i444 < 0))
 (guardO (0 ≤ (x296.getD i357.toNat 0) ∧ (x296.getD i357.toNat 0) < ((x1.length : Nat) : Int)) <|
 bindO (spec_pathText n x1 ((x1.getD ((x296.getD i357.toNat 0).toNat) dnod).parent)) fun s456 =>
 bindO (spec_resolve n x2 s456) fun i458 =>
 some (decide (0 ≤ i458)))
 (some false)) fun b452 =>
 bindO (iteO b452
 (bindO (spec_pathText n x1 (x296.getD i357.toNat 0)) fun s467 =>
 guardO (0 = 0 ∧ x356.length = x356.length ∧ x356.length + (([(⟨1, s467, 0⟩ : Edt)].drop 0).take ([(⟨1, s467, 0⟩ : Edt)].length)).length ≤ 1099511627776) <|
 some (x356 ++ (([(⟨1, s467, 0⟩ : Edt)].drop 0).take ([(⟨1, s467, 0⟩ : Edt)].length))))
 (some x356)) fun x464 =>
 spec_EditsBetween_L1 x1 x2 x296 n x464 (w64 (i357 + 1)))
 (some x356)

theorem spec_EditsBetween_L1_ok (w : World) (X : Nat → Prop) (θ : List Loc) (x1 : List Nod) (x2 : List Nod) (x296 : List Int) (x412 : (List Edt)) : ∀ (n : Nat) (x356 : List Edt) (i357 : Int), spec_EditsBetween_L1 x1 x2 x296 n x356 i357 = some x412 → WL EE ⟨w, X, θ, 96, 2⟩ (subC [1, 1, 1, 1, 0, 1, 4, 4] (bodyC Try.f27)) (fun (e : Exit) (s : St) => e = .exit 0 ∧ s = ⟨[(0, .one (.e (.sl 0 0 x1.length))), (1, .one (.e (.sl 1 0 x2.length))), (5, .one (.e (.sl 2 0 x412.length)))], [.row .nod x1 false, .row .nod x2 false, .row .edt x412 true]⟩) ⟨[(0, .one (.e (.sl 0 0 x1.length))), (1, .one (.e (.sl 1 0 x2.length))), (5, .one (.e (.sl 2 0 x356.length))), (6, .one (.e (.sl 3 0 x296.length))), (7, I i357)], [.row .nod x1 false, .row .nod x2 false, .row .edt x356 true, .row .int x296 true]⟩ := by
  intro n
  induction n with
  | zero => intro _ _ h; exact none_e h
  | succ n ih =>
    intro x356 i357 h
    rw [spec_EditsBetween_L1] at h
    refine WL_round ?_
    refine W_seq ?_
    refine W_seq ?_
    refine W_region ?_
    refine WO_step 4 [0, 1, 2, 3] [0, 1, 5, 6, 7, 26] (True ∧ (True ∧ True)) ⟨[(0, .one (.e (.sl 0 0 x1.length))), (1, .one (.e (.sl 1 0 x2.length))), (5, .one (.e (.sl 2 0 x356.length))), (6, .one (.e (.sl 3 0 x296.length))), (7, I i357), (26, B (decide (i357 < ((x296.length : Nat) : Int))))], [.row .nod x1 false, .row .nod x2 false, .row .edt x356 true, .row .int x296 true]⟩ (by kernel_rfl) ⟨trivial, trivial, trivial⟩ ?_
    refine WO_nil rfl ?_
    refine thenS_n ?_
    refine iteO_e h (fun hb415 h => W_true rfl hb415 ?_) (fun hb415 h => W_false rfl hb415 ?_)
    · refine W_sub [0, 1, 2, 3] [0, 1, 5, 6, 7] (st' := ⟨[(0, .one (.e (.sl 0 0 x1.length))), (1, .one (.e (.sl 1 0 x2.length))), (5, .one (.e (.sl 2 0 x356.length))), (6, .one (.e (.sl 3 0 x296.length))), (7, I i357)], [.row .nod x1 false, .row .nod x2 false, .row .edt x356 true, .row .int x296 true]⟩) (by kernel_rfl) ?_
      refine W_skip ?_
      refine thenS_n ?_
      refine W_seq ?_
      refine W_block ?_
      refine W_seq ?_
      refine W_region ?_
      refine guardO_e h (fun hg441 h => ?_)
      refine WO_step 5 [0, 1, 2, 3] [0, 1, 5, 6, 7, 8] ((0 ≤ i357 ∧ i357 < ((x296.length : Nat) : Int)) ∧ (True ∧ True)) ⟨[(0, .one (.e (.sl 0 0 x1.length))), (1, .one (.e (.sl 1 0 x2.length))), (5, .one (.e (.sl 2 0 x356.length))), (6, .one (.e (.sl 3 0 x296.length))), (7, I i357), (8, I (x296.getD i357.toNat 0))], [.row .nod x1 false, .row .nod x2 false, .row .edt x356 true, .row .int x296 true]⟩ (by kernel_rfl) ⟨hg441, trivial, trivial⟩ ?_
      refine WO_nil rfl ?_
      refine thenS_n ?_
      refine W_seq ?_
      refine W_region ?_
      refine WO_step 3 [0, 1, 2, 3] [0, 1, 5, 6, 7, 8, 33, 34, 35] True ⟨[(0, .one (.e (.sl 0 0 x1.length))), (1, .one (.e (.sl 1 0 x2.length))), (5, .one (.e (.sl 2 0 x356.length))), (6, .one (.e (.sl 3 0 x296.length))), (7, I i357), (8, I (x296.getD i357.toNat 0)), (33, .one (.e (.sl 1 0 x2.length))), (34, .one (.e (.sl 0 0 x1.length))), (35, I (x296.getD i357.toNat 0))], [.row .nod x1 false, .row .nod x2 false, .row .edt x356 true, .row .int x296 true]⟩ (by kernel_rfl) trivial ?_
      refine bindO_e h (fun s442 hc443 h => ?_)
      refine WO_call [.ro 0] Try.f56 rfl rfl rfl (by kernel_rfl) Try.func56 rfl (by kernel_rfl) (spec_pathText_ok n x1 (x296.getD i357.toNat 0) s442 hc443) (And.intro (And.intro rfl rfl) (trivial)) rfl ?_
      refine WO_sub [0, 1, 2, 3] [0, 1, 5, 6, 7, 8, 33, 36] (st' := ⟨[(0, .one (.e (.sl 0 0 x1.length))), (1, .one (.e (.sl 1 0 x2.length))), (5, .one (.e (.sl 2 0 x356.length))), (6, .one (.e (.sl 3 0 x296.length))), (7, I i357), (8, I (x296.getD i357.toNat 0)), (33, .one (.e (.sl 1 0 x2.length))), (36, S s442)], [.row .nod x1 false, .row .nod x2 false, .row .edt x356 true, .row .int x296 true]⟩) (by kernel_rfl) ?_
      refine bindO_e h (fun i444 hc445 h => ?_)
      refine WO_call [.ro 1] Try.f55 rfl rfl rfl (by kernel_rfl) Try.func55 rfl (by kernel_rfl) (spec_resolve_ok n x2 s442 i444 hc445) (And.intro (And.intro rfl rfl) (trivial)) rfl ?_
      refine WO_step 2 [0, 1, 2, 3] [0, 1, 5, 6, 7, 8, 39] (True ∧ True) ⟨[(0, .one (.e (.sl 0 0 x1.length))), (1, .one (.e (.sl 1 0 x2.length))), (5, .one (.e (.sl 2 0 x356.length))), (6, .one (.e (.sl 3 0 x296.length))), (7, I i357), (8, I (x296.getD i357.toNat 0)), (39, B (decide (i444 < 0)))], [.row .nod x1 false, .row .nod x2 false, .row .edt x356 true, .row .int x296 true]⟩ (by kernel_rfl) ⟨trivial, trivial⟩ ?_
      refine bindO_e h (fun b452 hv453 h => ?_)
      refine WO_thru ⟨[(0, .one (.e (.sl 0 0 x1.length))), (1, .one (.e (.sl 1 0 x2.length))), (5, .one (.e (.sl 2 0 x356.length))), (6, .one (.e (.sl 3 0 x296.length))), (7, I i357), (8, I (x296.getD i357.toNat 0)), (50, B b452)], [.row .nod x1 false, .row .nod x2 false, .row .edt x356 true, .row .int x296 true]⟩ ?_ ?_
      · refine iteO_e hv453 (fun hb454 hv453 => WO_known 39 true rfl hb454 ?_) (fun hb454 hv453 => WO_known 39 false rfl hb454 ?_)
        · refine guardO_e hv453 (fun hg455 hv453 => ?_)
          refine WO_step 7 [0, 1, 2, 3] [0, 1, 5, 6, 7, 8, 39, 40, 41, 46] ((0 ≤ (x296.getD i357.toNat 0) ∧ (x296.getD i357.toNat 0) < ((x1.length : Nat) : Int)) ∧ (True ∧ True)) ⟨[(0, .one (.e (.sl 0 0 x1.length))), (1, .one (.e (.sl 1 0 x2.length))), (5, .one (.e (.sl 2 0 x356.length))), (6, .one (.e (.sl 3 0 x296.length))), (7, I i357), (8, I (x296.getD i357.toNat 0)), (39, B true), (40, .one (.e (.sl 1 0 x2.length))), (41, .one (.e (.sl 0 0 x1.length))), (46, I ((x1.getD ((x296.getD i357.toNat 0).toNat) dnod).parent))], [.row .nod x1 false, .row .nod x2 false, .row .edt x356 true, .row .int x296 true]⟩ (by kernel_rfl) ⟨hg455, trivial, trivial⟩ ?_
          refine bindO_e hv453 (fun s456 hc457 hv453 => ?_)
          refine WO_call [.ro 0] Try.f56 rfl rfl rfl (by kernel_rfl) Try.func56 rfl (by kernel_rfl) (spec_pathText_ok n x1 ((x1.getD ((x296.getD i357.toNat 0).toNat) dnod).parent) s456 hc457) (And.intro (And.intro rfl rfl) (trivial)) rfl ?_
          refine WO_sub [0, 1, 2, 3] [0, 1, 5, 6, 7, 8, 39, 40, 47] (st' := ⟨[(0, .one (.e (.sl 0 0 x1.length))), (1, .one (.e (.sl 1 0 x2.length))), (5, .one (.e (.sl 2 0 x356.length))), (6, .one (.e (.sl 3 0 x296.length))), (7, I i357), (8, I (x296.getD i357.toNat 0)), (39, B true), (40, .one (.e (.sl 1 0 x2.length))), (47, S s456)], [.row .nod x1 false, .row .nod x2 false, .row .edt x356 true, .row .int x296 true]⟩) (by kernel_rfl) ?_
          refine bindO_e hv453 (fun i458 hc459 hv453 => ?_)
          refine WO_call [.ro 1] Try.f55 rfl rfl rfl (by kernel_rfl) Try.func55 rfl (by kernel_rfl) (spec_resolve_ok n x2 s456 i458 hc459) (And.intro (And.intro rfl rfl) (trivial)) rfl ?_
          refine WO_step 2 [0, 1, 2, 3] [0, 1, 5, 6, 7, 8, 50] (True ∧ True) ⟨[(0, .one (.e (.sl 0 0 x1.length))), (1, .one (.e (.sl 1 0 x2.length))), (5, .one (.e (.sl 2 0 x356.length))), (6, .one (.e (.sl 3 0 x296.length))), (7, I i357), (8, I (x296.getD i357.toNat 0)), (50, B (decide (0 ≤ i458)))], [.row .nod x1 false, .row .nod x2 false, .row .edt x356 true, .row .int x296 true]⟩ (by kernel_rfl) ⟨trivial, trivial⟩ ?_
          cases hv453
          exact WO_nil rfl ⟨rfl, rfl⟩
        · refine WO_step 11 [0, 1, 2, 3] [0, 1, 5, 6, 7, 8, 50] True ⟨[(0, .one (.e (.sl 0 0 x1.length))), (1, .one (.e (.sl 1 0 x2.length))), (5, .one (.e (.sl 2 0 x356.length))), (6, .one (.e (.sl 3 0 x296.length))), (7, I i357), (8, I (x296.getD i357.toNat 0)), (50, B false)], [.row .nod x1 false, .row .nod x2 false, .row .edt x356 true, .row .int x296 true]⟩ (by kernel_rfl) trivial ?_
          cases hv453
          exact WO_nil rfl ⟨rfl, rfl⟩
      · refine thenS_n ?_
        refine bindO_e h (fun x464 hx464 h => ?_)
        refine W_cut (Q' := fun (e : Exit) (s : St) => e = .normal ∧ s = ⟨[(0, .one (.e (.sl 0 0 x1.length))), (1, .one (.e (.sl 1 0 x2.length))), (5, .one (.e (.sl 2 0 x464.length))), (6, .one (.e (.sl 3 0 x296.length))), (7, I i357)], [.row .nod x1 false, .row .nod x2 false, .row .edt x464 true, .row .int x296 true]⟩) ?_ ?_
        · refine iteO_e hx464 (fun hb466 hx464 => W_true rfl hb466 ?_) (fun hb466 hx464 => W_false rfl hb466 ?_)
          · refine W_region ?_
            refine WO_step 3 [0, 1, 3, 2] [0, 1, 6, 7, 51, 52, 53] True ⟨[(0, .one (.e (.sl 0 0 x1.length))), (1, .one (.e (.sl 1 0 x2.length))), (6, .one (.e (.sl 2 0 x296.length))), (7, I i357), (51, .one (.e (.sl 3 0 x356.length))), (52, .one (.e (.sl 0 0 x1.length))), (53, I (x296.getD i357.toNat 0))], [.row .nod x1 false, .row .nod x2 false, .row .int x296 true, .row .edt x356 true]⟩ (by kernel_rfl) trivial ?_
            refine bindO_e hx464 (fun s467 hc468 hx464 => ?_)
            refine WO_call [.ro 0] Try.f56 rfl rfl rfl (by kernel_rfl) Try.func56 rfl (by kernel_rfl) (spec_pathText_ok n x1 (x296.getD i357.toNat 0) s467 hc468) (And.intro (And.intro rfl rfl) (trivial)) rfl ?_
            refine guardO_e hx464 (fun hg469 hx464 => ?_)
            refine WO_step 4 [0, 1, 5, 2] [0, 1, 5, 6, 7] ((0 = 0 ∧ x356.length = x356.length ∧ x356.length + (([(⟨1, s467, 0⟩ : Edt)].drop 0).take ([(⟨1, s467, 0⟩ : Edt)].length)).length ≤ 1099511627776) ∧ True) ⟨[(0, .one (.e (.sl 0 0 x1.length))), (1, .one (.e (.sl 1 0 x2.length))), (5, .one (.e (.sl 2 0 ((x356 ++ (([(⟨1, s467, 0⟩ : Edt)].drop 0).take ([(⟨1, s467, 0⟩ : Edt)].length))).length)))), (6, .one (.e (.sl 3 0 x296.length))), (7, I i357)], [.row .nod x1 false, .row .nod x2 false, .row .edt (x356 ++ (([(⟨1, s467, 0⟩ : Edt)].drop 0).take ([(⟨1, s467, 0⟩ : Edt)].length))) true, .row .int x296 true]⟩ (by kernel_rfl) ⟨hg469, trivial⟩ ?_
            refine WO_nil rfl ?_
            cases hx464
            exact And.intro rfl rfl
          · refine W_sub [0, 1, 2, 3] [0, 1, 5, 6, 7] (st' := ⟨[(0, .one (.e (.sl 0 0 x1.length))), (1, .one (.e (.sl 1 0 x2.length))), (5, .one (.e (.sl 2 0 x356.length))), (6, .one (.e (.sl 3 0 x296.length))), (7, I i357)], [.row .nod x1 false, .row .nod x2 false, .row .edt x356 true, .row .int x296 true]⟩) (by kernel_rfl) ?_
            refine W_skip ?_
            cases hx464
            exact And.intro rfl rfl
        · rintro _ _ ⟨rfl, rfl⟩
          refine blockS_n ?_
          refine thenS_n ?_
          refine W_region ?_
          refine WO_step 3 [0, 1, 2, 3] [0, 1, 5, 6, 7] (True ∧ True) ⟨[(0, .one (.e (.sl 0 0 x1.length))), (1, .one (.e (.sl 1 0 x2.length))), (5, .one (.e (.sl 2 0 x464.length))), (6, .one (.e (.sl 3 0 x296.length))), (7, I (w64 (i357 + 1)))], [.row .nod x1 false, .row .nod x2 false, .row .edt x464 true, .row .int x296 true]⟩ (by kernel_rfl) ⟨trivial, trivial⟩ ?_
          refine WO_nil rfl ?_
          refine thenS_n ?_
          exact ih _ _ h
    · refine W_sub [0, 1, 2] [0, 1, 5] (st' := ⟨[(0, .one (.e (.sl 0 0 x1.length))), (1, .one (.e (.sl 1 0 x2.length))), (5, .one (.e (.sl 2 0 x356.length)))], [.row .nod x1 false, .row .nod x2 false, .row .edt x356 true]⟩) (by kernel_rfl) ?_
      refine W_exit ?_
      refine thenS_e ?_
      refine thenS_e ?_
      cases h
      exact And.intro rfl rfl

def spec_EditsBetween_L2 (x1 : List Nod) (x471 : List Edt) (x2 : List Nod) : Nat → (List Edt) → Int → Option ((List Edt))
| 0, _, _ => none
| n + 1, x507, i508 =>
 iteO (decide (i508 < ((x471.length : Nat) : Int)))
 (guardO (0 ≤ i508 ∧ i508 < ((x471.length : Nat) : Int)) <|
 bindO (spec_resolve n x1 ((x471.getD i508.toNat dedt).path)) fun i557 =>
 bindO (iteO (decide (i557 < 0))
 (some true)
 (guardO (0 ≤ i557 ∧ i557 < ((x1.length : Nat) : Int)) <|
 guardO (0 ≤ i508 ∧ i508 < ((x471.length : Nat) : Int)) <|
 some (!decide (((x1.getD i557.toNat dnod).value) = ((x471.getD i508.toNat dedt).value))))) fun b562 =>
 bindO (iteO b562
 (guardO (0 ≤ i508 ∧ i508 < ((x471.length : Nat) : Int)) <|
 guardO (0 = 0 ∧ x507.length = x507.length ∧ x507.length + (([(⟨(x471.getD i508.toNat dedt).kind, (x471.getD i508.toNat dedt).path, (x471.getD i508.toNat dedt).value⟩ : Edt)].drop 0).take ([(⟨(x471.getD i508.toNat dedt).kind, (x471.getD i508.toNat dedt).path, (x471.getD i508.toNat dedt).value⟩ : Edt)].length)).length ≤ 1099511627776) <|
 some (x507 ++ (([(⟨(x471.getD i508.toNat dedt).kind, (x471.getD i508.toNat dedt).path, (x471.getD i508.toNat dedt).value⟩ : Edt)].drop 0).take ([(⟨(x471.getD i508.toNat dedt).kind, (x471.getD i508.toNat dedt).path, (x471.getD i508.toNat dedt).value⟩ : Edt)].length))))
 (some x507)) fun x567 =>
 spec_EditsBetween_L2 x1 x471 x2 n x567 (w64 (i508 + 1)))
 (some x507)

theorem spec_EditsBetween_L2_ok (w : World) (X : Nat → Prop) (θ : List Loc) (x1 : List Nod) (x471 : List Edt) (x2 : List Nod) (x539 : (List Edt)) : ∀ (n : Nat) (x507 : List Edt) (i508 : Int), spec_EditsBetween_L2 x1 x471 x2 n x507 i508 = some x539 → WL EE ⟨w, X, θ, 96, 2⟩ (subC [1, 1, 1, 1, 1, 1, 0, 1, 4, 4] (bodyC Try.f27)) (fun (e : Exit) (s : St) => e = .exit 2 ∧ s = ⟨[(5, .one (.e (.sl 2 0 x539.length)))], [.row .nod x1 false, .row .nod x2 false, .row .edt x539 true]⟩) ⟨[(0, .one (.e (.sl 0 0 x1.length))), (5, .one (.e (.sl 2 0 x507.length))), (9, .one (.e (.sl 3 0 x471.length))), (10, I i508)], [.row .nod x1 false, .row .nod x2 false, .row .edt x507 true, .row .edt x471 true]⟩ := by
  intro n
  induction n with
  | zero => intro _ _ h; exact none_e h
  | succ n ih =>
    intro x507 i508 h
    rw [spec_EditsBetween_L2] at h
    refine WL_round ?_
    refine W_seq ?_
    refine W_seq ?_
    refine W_region ?_
    refine WO_step 4 [0, 1, 2, 3] [0, 5, 9, 10, 63] (True ∧ (True ∧ True)) ⟨[(0, .one (.e (.sl 0 0 x1.length))), (5, .one (.e (.sl 2 0 x507.length))), (9, .one (.e (.sl 3 0 x471.length))), (10, I i508), (63, B (decide (i508 < ((x471.length : Nat) : Int))))], [.row .nod x1 false, .row .nod x2 false, .row .edt x507 true, .row .edt x471 true]⟩ (by kernel_rfl) ⟨trivial, trivial, trivial⟩ ?_
    refine WO_nil rfl ?_
    refine thenS_n ?_
    refine iteO_e h (fun hb542 h => W_true rfl hb542 ?_) (fun hb542 h => W_false rfl hb542 ?_)
    · refine W_sub [0, 1, 2, 3] [0, 5, 9, 10] (st' := ⟨[(0, .one (.e (.sl 0 0 x1.length))), (5, .one (.e (.sl 2 0 x507.length))), (9, .one (.e (.sl 3 0 x471.length))), (10, I i508)], [.row .nod x1 false, .row .nod x2 false, .row .edt x507 true, .row .edt x471 true]⟩) (by kernel_rfl) ?_
      refine W_skip ?_
      refine thenS_n ?_
      refine W_seq ?_
      refine W_block ?_
      refine W_seq ?_
      refine W_region ?_
      refine guardO_e h (fun hg556 h => ?_)
      refine WO_step 6 [0, 1, 2, 3] [0, 5, 9, 10, 66, 71] ((0 ≤ i508 ∧ i508 < ((x471.length : Nat) : Int)) ∧ (True ∧ True)) ⟨[(0, .one (.e (.sl 0 0 x1.length))), (5, .one (.e (.sl 2 0 x507.length))), (9, .one (.e (.sl 3 0 x471.length))), (10, I i508), (66, .one (.e (.sl 0 0 x1.length))), (71, S ((x471.getD i508.toNat dedt).path))], [.row .nod x1 false, .row .nod x2 false, .row .edt x507 true, .row .edt x471 true]⟩ (by kernel_rfl) ⟨hg556, trivial, trivial⟩ ?_
      refine bindO_e h (fun i557 hc558 h => ?_)
      refine WO_call [.ro 0] Try.f55 rfl rfl rfl (by kernel_rfl) Try.func55 rfl (by kernel_rfl) (spec_resolve_ok n x1 ((x471.getD i508.toNat dedt).path) i557 hc558) (And.intro (And.intro rfl rfl) (trivial)) rfl ?_
      refine WO_step 1 [0, 1, 2, 3] [0, 5, 9, 10, 11] True ⟨[(0, .one (.e (.sl 0 0 x1.length))), (5, .one (.e (.sl 2 0 x507.length))), (9, .one (.e (.sl 3 0 x471.length))), (10, I i508), (11, I i557)], [.row .nod x1 false, .row .nod x2 false, .row .edt x507 true, .row .edt x471 true]⟩ (by kernel_rfl) trivial ?_
      refine WO_nil rfl ?_
      refine thenS_n ?_
      refine W_seq ?_
      refine bindO_e h (fun b562 hv563 h => ?_)
      refine W_cut (Q' := fun (e : Exit) (s : St) => e = .normal ∧ s = ⟨[(0, .one (.e (.sl 0 0 x1.length))), (5, .one (.e (.sl 2 0 x507.length))), (9, .one (.e (.sl 3 0 x471.length))), (10, I i508), (87, B b562)], [.row .nod x1 false, .row .nod x2 false, .row .edt x507 true, .row .edt x471 true]⟩) ?_ ?_
      · refine iteO_e hv563 (fun hb559 hv563 => ?_) (fun hb559 hv563 => ?_)
        · refine W_draw [] true (by kernel_rfl) (by kernel_rfl) ?_
          refine WD_takeK [0, 1, 2] [0, 5, 9, 10, 11, 75] [0, 5, 9, 10, 11, 75] (φ := (True ∧ True ∧ True)) (ls' := #[true, true, true, false, false, false, false, false, false, false, false, false, false, false, false]) (Ts' := [(0, .one (.e (.sl 0 0 x1.length))), (5, .one (.e (.sl 2 0 x507.length))), (9, .one (.e (.sl 3 0 x471.length))), (10, I i508), (11, I i557), (75, B (decide (i557 < 0)))]) (st' := ⟨[(0, .one (.e (.sl 0 0 x1.length))), (5, .one (.e (.sl 2 0 x507.length))), (9, .one (.e (.sl 3 0 x471.length))), (10, I i508), (11, I i557), (75, B (decide (i557 < 0)))], [.row .nod x1 false, .row .nod x2 false, .row .edt x507 true, .row .edt x471 true]⟩) (n2 := 12) (by kernel_rfl) ⟨trivial, trivial, trivial⟩ rfl ?_
          refine WD_known 75 true rfl rfl hb559 ?_
          refine WD_takeK [3, 4, 5, 6, 7, 8, 9, 10, 11, 12, 13, 14] [0, 5, 9, 10, 87] [0, 5, 9, 10, 87] (φ := True) (ls' := #[true, true, true, true, true, true, true, true, true, true, true, true, true, true, true]) (Ts' := [(0, .one (.e (.sl 0 0 x1.length))), (5, .one (.e (.sl 2 0 x507.length))), (9, .one (.e (.sl 3 0 x471.length))), (10, I i508), (87, B true)]) (st' := ⟨[(0, .one (.e (.sl 0 0 x1.length))), (5, .one (.e (.sl 2 0 x507.length))), (9, .one (.e (.sl 3 0 x471.length))), (10, I i508), (87, B true)], [.row .nod x1 false, .row .nod x2 false, .row .edt x507 true, .row .edt x471 true]⟩) (n2 := 0) (by kernel_rfl) trivial rfl ?_
          exact WD_done [0, 1, 2, 3] [0, 5, 9, 10, 87] (st' := ⟨[(0, .one (.e (.sl 0 0 x1.length))), (5, .one (.e (.sl 2 0 x507.length))), (9, .one (.e (.sl 3 0 x471.length))), (10, I i508), (87, B true)], [.row .nod x1 false, .row .nod x2 false, .row .edt x507 true, .row .edt x471 true]⟩) (by kernel_rfl) (by kernel_rfl) (And.intro rfl (by cases hv563; rfl))
        · refine guardO_e hv563 (fun hg560 hv563 => ?_)
          refine guardO_e hv563 (fun hg561 hv563 => ?_)
          refine W_draw [] true (by kernel_rfl) (by kernel_rfl) ?_
          refine WD_takeK [0, 1, 2] [0, 5, 9, 10, 11, 75] [0, 5, 9, 10, 11, 75] (φ := (True ∧ True ∧ True)) (ls' := #[true, true, true, false, false, false, false, false, false, false, false, false, false, false, false]) (Ts' := [(0, .one (.e (.sl 0 0 x1.length))), (5, .one (.e (.sl 2 0 x507.length))), (9, .one (.e (.sl 3 0 x471.length))), (10, I i508), (11, I i557), (75, B (decide (i557 < 0)))]) (st' := ⟨[(0, .one (.e (.sl 0 0 x1.length))), (5, .one (.e (.sl 2 0 x507.length))), (9, .one (.e (.sl 3 0 x471.length))), (10, I i508), (11, I i557), (75, B (decide (i557 < 0)))], [.row .nod x1 false, .row .nod x2 false, .row .edt x507 true, .row .edt x471 true]⟩) (n2 := 12) (by kernel_rfl) ⟨trivial, trivial, trivial⟩ rfl ?_
          refine WD_known 75 false rfl rfl hb559 ?_
          refine WD_takeK [3, 4, 5, 6, 7, 8, 9, 10, 11, 12, 13, 14] [0, 5, 9, 10, 87] [0, 5, 9, 10, 87] (φ := ((0 ≤ i557 ∧ i557 < ((x1.length : Nat) : Int)) ∧ (0 ≤ i557 ∧ i557 < ((x1.length : Nat) : Int)) ∧ (True ∧ True ∧ ((0 ≤ i508 ∧ i508 < ((x471.length : Nat) : Int)) ∧ (0 ≤ i508 ∧ i508 < ((x471.length : Nat) : Int)) ∧ (True ∧ True ∧ (True ∧ True ∧ True)))))) (ls' := #[true, true, true, true, true, true, true, true, true, true, true, true, true, true, true]) (Ts' := [(0, .one (.e (.sl 0 0 x1.length))), (5, .one (.e (.sl 2 0 x507.length))), (9, .one (.e (.sl 3 0 x471.length))), (10, I i508), (87, B (!decide (((x1.getD i557.toNat dnod).value) = ((x471.getD i508.toNat dedt).value))))]) (st' := ⟨[(0, .one (.e (.sl 0 0 x1.length))), (5, .one (.e (.sl 2 0 x507.length))), (9, .one (.e (.sl 3 0 x471.length))), (10, I i508), (87, B (!decide (((x1.getD i557.toNat dnod).value) = ((x471.getD i508.toNat dedt).value))))], [.row .nod x1 false, .row .nod x2 false, .row .edt x507 true, .row .edt x471 true]⟩) (n2 := 0) (by kernel_rfl) ⟨hg560, hg560, trivial, trivial, hg561, hg561, trivial, trivial, trivial, trivial, trivial⟩ rfl ?_
          exact WD_done [0, 1, 2, 3] [0, 5, 9, 10, 87] (st' := ⟨[(0, .one (.e (.sl 0 0 x1.length))), (5, .one (.e (.sl 2 0 x507.length))), (9, .one (.e (.sl 3 0 x471.length))), (10, I i508), (87, B (!decide (((x1.getD i557.toNat dnod).value) = ((x471.getD i508.toNat dedt).value))))], [.row .nod x1 false, .row .nod x2 false, .row .edt x507 true, .row .edt x471 true]⟩) (by kernel_rfl) (by kernel_rfl) (And.intro rfl (by cases hv563; rfl))
      · rintro _ _ ⟨rfl, rfl⟩
        refine thenS_n ?_
        refine bindO_e h (fun x567 hx567 h => ?_)
        refine W_cut (Q' := fun (e : Exit) (s : St) => e = .normal ∧ s = ⟨[(0, .one (.e (.sl 0 0 x1.length))), (5, .one (.e (.sl 2 0 x567.length))), (9, .one (.e (.sl 3 0 x471.length))), (10, I i508)], [.row .nod x1 false, .row .nod x2 false, .row .edt x567 true, .row .edt x471 true]⟩) ?_ ?_
        · refine iteO_e hx567 (fun hb569 hx567 => W_true rfl hb569 ?_) (fun hb569 hx567 => W_false rfl hb569 ?_)
          · refine W_region ?_
            refine guardO_e hx567 (fun hg570 hx567 => ?_)
            refine guardO_e hx567 (fun hg571 hx567 => ?_)
            refine WO_step 8 [0, 1, 5, 3] [0, 5, 9, 10] ((0 ≤ i508 ∧ i508 < ((x471.length : Nat) : Int)) ∧ (True ∧ ((0 = 0 ∧ x507.length = x507.length ∧ x507.length + (([(⟨(x471.getD i508.toNat dedt).kind, (x471.getD i508.toNat dedt).path, (x471.getD i508.toNat dedt).value⟩ : Edt)].drop 0).take ([(⟨(x471.getD i508.toNat dedt).kind, (x471.getD i508.toNat dedt).path, (x471.getD i508.toNat dedt).value⟩ : Edt)].length)).length ≤ 1099511627776) ∧ True))) ⟨[(0, .one (.e (.sl 0 0 x1.length))), (5, .one (.e (.sl 2 0 ((x507 ++ (([(⟨(x471.getD i508.toNat dedt).kind, (x471.getD i508.toNat dedt).path, (x471.getD i508.toNat dedt).value⟩ : Edt)].drop 0).take ([(⟨(x471.getD i508.toNat dedt).kind, (x471.getD i508.toNat dedt).path, (x471.getD i508.toNat dedt).value⟩ : Edt)].length))).length)))), (9, .one (.e (.sl 3 0 x471.length))), (10, I i508)], [.row .nod x1 false, .row .nod x2 false, .row .edt (x507 ++ (([(⟨(x471.getD i508.toNat dedt).kind, (x471.getD i508.toNat dedt).path, (x471.getD i508.toNat dedt).value⟩ : Edt)].drop 0).take ([(⟨(x471.getD i508.toNat dedt).kind, (x471.getD i508.toNat dedt).path, (x471.getD i508.toNat dedt).value⟩ : Edt)].length))) true, .row .edt x471 true]⟩ (by kernel_rfl) ⟨hg570, trivial, hg571, trivial⟩ ?_
            refine WO_nil rfl ?_
            cases hx567
            exact And.intro rfl rfl
          · refine W_sub [0, 1, 2, 3] [0, 5, 9, 10] (st' := ⟨[(0, .one (.e (.sl 0 0 x1.length))), (5, .one (.e (.sl 2 0 x507.length))), (9, .one (.e (.sl 3 0 x471.length))), (10, I i508)], [.row .nod x1 false, .row .nod x2 false, .row .edt x507 true, .row .edt x471 true]⟩) (by kernel_rfl) ?_
            refine W_skip ?_
            cases hx567
            exact And.intro rfl rfl
        · rintro _ _ ⟨rfl, rfl⟩
          refine blockS_n ?_
          refine thenS_n ?_
          refine W_region ?_
          refine WO_step 3 [0, 1, 2, 3] [0, 5, 9, 10] (True ∧ True) ⟨[(0, .one (.e (.sl 0 0 x1.length))), (5, .one (.e (.sl 2 0 x567.length))), (9, .one (.e (.sl 3 0 x471.length))), (10, I (w64 (i508 + 1)))], [.row .nod x1 false, .row .nod x2 false, .row .edt x567 true, .row .edt x471 true]⟩ (by kernel_rfl) ⟨trivial, trivial⟩ ?_
          refine WO_nil rfl ?_
          refine thenS_n ?_
          exact ih _ _ h
    · refine W_sub [0, 1, 2] [5] (st' := ⟨[(5, .one (.e (.sl 2 0 x507.length)))], [.row .nod x1 false, .row .nod x2 false, .row .edt x507 true]⟩) (by kernel_rfl) ?_
      refine W_exit ?_
      refine thenS_e ?_
      refine thenS_e ?_
      cases h
      exact And.intro rfl rfl

def spec_EditsBetween (n : Nat) (x1 : List Nod) (x2 : List Nod) : Option ((List Edt)) :=
 bindO (spec_validTree n x1) fun b284 =>
 bindO (iteO (!b284)
 (some true)
 (bindO (spec_validTree n x2) fun b292 =>
 some (!b292))) fun b289 =>
 iteO b289
 (some ([] : List Edt))
 (bindO (spec_walk n x1 0) fun x296 =>
 bindO (spec_EditsBetween_L1 x1 x2 x296 n ([] : List Edt) 1) fun x412 =>
 bindO (spec_entries n x2) fun x471 =>
 bindO (spec_EditsBetween_L2 x1 x471 x2 n x412 0) fun x539 =>
 some x539)

theorem spec_EditsBetween_ok (n : Nat) (x1 : List Nod) (x2 : List Nod) (x283 : List Edt) (h : spec_EditsBetween n x1 x2 = some x283) : FOk EE 27 [.one (.e (.sl 0 0 x1.length)), .one (.e (.sl 1 0 x2.length))] [.row .nod x1 false, .row .nod x2 false] (.one (.e (.sl 2 0 x283.length))) [.row .nod x1 false, .row .nod x2 false, .row .edt x283 true] := by
  unfold spec_EditsBetween at h
  refine FOk_of_W 96 2 Try.func27 rfl rfl (Nat.le_of_ble_eq_true rfl) rfl (fun w X θ => ?_)
  refine W_seq ?_
  refine W_region ?_
  refine WO_step 1 [0, 1] [0, 1] True ⟨[(0, .one (.e (.sl 0 0 x1.length))), (1, .one (.e (.sl 1 0 x2.length)))], [.row .nod x1 false, .row .nod x2 false]⟩ (by kernel_rfl) trivial ?_
  refine WO_nil rfl ?_
  refine thenS_n ?_
  refine W_seq ?_
  refine W_region ?_
  refine WO_step 2 [0, 1, 2] [0, 1, 5] True ⟨[(0, .one (.e (.sl 0 0 x1.length))), (1, .one (.e (.sl 1 0 x2.length))), (5, .one (.e (.sl 2 0 (([] : List Edt).length))))], [.row .nod x1 false, .row .nod x2 false, .row .edt ([] : List Edt) true]⟩ (by kernel_rfl) trivial ?_
  refine WO_nil rfl ?_
  refine thenS_n ?_
  refine W_seq ?_
  refine W_seq ?_
  refine W_region ?_
  refine WO_step 1 [0, 1, 2] [0, 1, 5, 13] True ⟨[(0, .one (.e (.sl 0 0 x1.length))), (1, .one (.e (.sl 1 0 x2.length))), (5, .one (.e (.sl 2 0 (([] : List Edt).length)))), (13, .one (.e (.sl 0 0 x1.length)))], [.row .nod x1 false, .row .nod x2 false, .row .edt ([] : List Edt) true]⟩ (by kernel_rfl) trivial ?_
  refine bindO_e h (fun b284 hc285 h => ?_)
  refine WO_call [.ro 0] Try.f37 rfl rfl rfl (by kernel_rfl) Try.func37 rfl (by kernel_rfl) (spec_validTree_ok n x1 b284 hc285) (And.intro (And.intro rfl rfl) (trivial)) rfl ?_
  refine WO_step 2 [0, 1, 2] [0, 1, 5, 16] True ⟨[(0, .one (.e (.sl 0 0 x1.length))), (1, .one (.e (.sl 1 0 x2.length))), (5, .one (.e (.sl 2 0 (([] : List Edt).length)))), (16, B (!b284))], [.row .nod x1 false, .row .nod x2 false, .row .edt ([] : List Edt) true]⟩ (by kernel_rfl) trivial ?_
  refine bindO_e h (fun b289 hv290 h => ?_)
  refine WO_thru ⟨[(0, .one (.e (.sl 0 0 x1.length))), (1, .one (.e (.sl 1 0 x2.length))), (5, .one (.e (.sl 2 0 (([] : List Edt).length)))), (20, B b289)], [.row .nod x1 false, .row .nod x2 false, .row .edt ([] : List Edt) true]⟩ ?_ ?_
  · refine iteO_e hv290 (fun hb291 hv290 => WO_known 16 true rfl hb291 ?_) (fun hb291 hv290 => WO_known 16 false rfl hb291 ?_)
    · refine WO_step 4 [0, 1, 2] [0, 1, 5, 20] True ⟨[(0, .one (.e (.sl 0 0 x1.length))), (1, .one (.e (.sl 1 0 x2.length))), (5, .one (.e (.sl 2 0 (([] : List Edt).length)))), (20, B true)], [.row .nod x1 false, .row .nod x2 false, .row .edt ([] : List Edt) true]⟩ (by kernel_rfl) trivial ?_
      cases hv290
      exact WO_nil rfl ⟨rfl, rfl⟩
    · refine WO_step 1 [0, 1, 2] [0, 1, 5, 16, 17] True ⟨[(0, .one (.e (.sl 0 0 x1.length))), (1, .one (.e (.sl 1 0 x2.length))), (5, .one (.e (.sl 2 0 (([] : List Edt).length)))), (16, B false), (17, .one (.e (.sl 1 0 x2.length)))], [.row .nod x1 false, .row .nod x2 false, .row .edt ([] : List Edt) true]⟩ (by kernel_rfl) trivial ?_
      refine bindO_e hv290 (fun b292 hc293 hv290 => ?_)
      refine WO_call [.ro 1] Try.f37 rfl rfl rfl (by kernel_rfl) Try.func37 rfl (by kernel_rfl) (spec_validTree_ok n x2 b292 hc293) (And.intro (And.intro rfl rfl) (trivial)) rfl ?_
      refine WO_step 2 [0, 1, 2] [0, 1, 5, 20] True ⟨[(0, .one (.e (.sl 0 0 x1.length))), (1, .one (.e (.sl 1 0 x2.length))), (5, .one (.e (.sl 2 0 (([] : List Edt).length)))), (20, B (!b292))], [.row .nod x1 false, .row .nod x2 false, .row .edt ([] : List Edt) true]⟩ (by kernel_rfl) trivial ?_
      cases hv290
      exact WO_nil rfl ⟨rfl, rfl⟩
  · refine thenS_n ?_
    refine iteO_e h (fun hb295 h => W_true rfl hb295 ?_) (fun hb295 h => W_false rfl hb295 ?_)
    · refine W_seq ?_
      refine W_region ?_
      refine WO_step 1 [0, 1] [4] True ⟨[(4, .one (.e (.nsl)))], [.row .nod x1 false, .row .nod x2 false]⟩ (by kernel_rfl) trivial ?_
      refine WO_nilrow 4 .edt rfl ?_
      refine WO_sub [0, 1, 2] [4] (st' := ⟨[(4, .one (.e (.sl 2 0 (([] : List Edt).length))))], [.row .nod x1 false, .row .nod x2 false, .row .edt ([] : List Edt) true]⟩) (by kernel_rfl) ?_
      refine WO_nil rfl ?_
      refine thenS_n ?_
      refine W_ret ?_
      refine thenS_r ?_
      cases h
      exact ⟨[0, 1, 2], True, by kernel_rfl, trivial⟩
    · refine W_sub [0, 1, 2] [0, 1, 5] (st' := ⟨[(0, .one (.e (.sl 0 0 x1.length))), (1, .one (.e (.sl 1 0 x2.length))), (5, .one (.e (.sl 2 0 (([] : List Edt).length))))], [.row .nod x1 false, .row .nod x2 false, .row .edt ([] : List Edt) true]⟩) (by kernel_rfl) ?_
      refine W_skip ?_
      refine thenS_n ?_
      refine W_seq ?_
      refine W_region ?_
      refine WO_step 1 [0, 1, 2] [0, 1, 5, 21] True ⟨[(0, .one (.e (.sl 0 0 x1.length))), (1, .one (.e (.sl 1 0 x2.length))), (5, .one (.e (.sl 2 0 (([] : List Edt).length)))), (21, .one (.e (.sl 0 0 x1.length)))], [.row .nod x1 false, .row .nod x2 false, .row .edt ([] : List Edt) true]⟩ (by kernel_rfl) trivial ?_
      refine bindO_e h (fun x296 hc297 h => ?_)
      refine WO_call [.ro 0] Try.f54 rfl rfl rfl (by kernel_rfl) Try.func54 rfl (by kernel_rfl) (spec_walk_ok n x1 0 x296 hc297) (And.intro (And.intro rfl rfl) (trivial)) rfl ?_
      refine WO_step 1 [0, 1, 2, 3] [0, 1, 5, 6] True ⟨[(0, .one (.e (.sl 0 0 x1.length))), (1, .one (.e (.sl 1 0 x2.length))), (5, .one (.e (.sl 2 0 (([] : List Edt).length)))), (6, .one (.e (.sl 3 0 x296.length)))], [.row .nod x1 false, .row .nod x2 false, .row .edt ([] : List Edt) true, .row .int x296 true]⟩ (by kernel_rfl) trivial ?_
      refine WO_nil rfl ?_
      refine thenS_n ?_
      refine W_seq ?_
      refine W_seq ?_
      refine W_region ?_
      refine WO_step 1 [0, 1, 2, 3] [0, 1, 5, 6, 7] True ⟨[(0, .one (.e (.sl 0 0 x1.length))), (1, .one (.e (.sl 1 0 x2.length))), (5, .one (.e (.sl 2 0 (([] : List Edt).length)))), (6, .one (.e (.sl 3 0 x296.length))), (7, I 1)], [.row .nod x1 false, .row .nod x2 false, .row .edt ([] : List Edt) true, .row .int x296 true]⟩ (by kernel_rfl) trivial ?_
      refine WO_nil rfl ?_
      refine thenS_n ?_
      refine W_block ?_
      refine W_loop ?_
      refine bindO_e h (fun x412 hx412 h => ?_)
      refine WL_cut (spec_EditsBetween_L1_ok w X θ x1 x2 x296 x412 n ([] : List Edt) 1 hx412) ?_
      rintro _ _ ⟨rfl, rfl⟩
      refine blockS_y ?_
      refine thenS_n ?_
      refine W_seq ?_
      refine W_region ?_
      refine WO_step 1 [0, 1, 2] [0, 5, 58] True ⟨[(0, .one (.e (.sl 0 0 x1.length))), (5, .one (.e (.sl 2 0 x412.length))), (58, .one (.e (.sl 1 0 x2.length)))], [.row .nod x1 false, .row .nod x2 false, .row .edt x412 true]⟩ (by kernel_rfl) trivial ?_
      refine bindO_e h (fun x471 hc472 h => ?_)
      refine WO_call [.ro 1] Try.f57 rfl rfl rfl (by kernel_rfl) Try.func57 rfl (by kernel_rfl) (spec_entries_ok n x2 x471 hc472) (And.intro (And.intro rfl rfl) (trivial)) rfl ?_
      refine WO_step 1 [0, 1, 2, 3] [0, 5, 9] True ⟨[(0, .one (.e (.sl 0 0 x1.length))), (5, .one (.e (.sl 2 0 x412.length))), (9, .one (.e (.sl 3 0 x471.length)))], [.row .nod x1 false, .row .nod x2 false, .row .edt x412 true, .row .edt x471 true]⟩ (by kernel_rfl) trivial ?_
      refine WO_nil rfl ?_
      refine thenS_n ?_
      refine W_seq ?_
      refine W_seq ?_
      refine W_region ?_
      refine WO_step 1 [0, 1, 2, 3] [0, 5, 9, 10] True ⟨[(0, .one (.e (.sl 0 0 x1.length))), (5, .one (.e (.sl 2 0 x412.length))), (9, .one (.e (.sl 3 0 x471.length))), (10, I 0)], [.row .nod x1 false, .row .nod x2 false, .row .edt x412 true, .row .edt x471 true]⟩ (by kernel_rfl) trivial ?_
      refine WO_nil rfl ?_
      refine thenS_n ?_
      refine W_block ?_
      refine W_loop ?_
      refine bindO_e h (fun x539 hx539 h => ?_)
      refine WL_cut (spec_EditsBetween_L2_ok w X θ x1 x471 x2 x539 n x412 0 hx539) ?_
      rintro _ _ ⟨rfl, rfl⟩
      refine blockS_y ?_
      refine thenS_n ?_
      refine W_seq ?_
      refine W_region ?_
      refine WO_step 2 [0, 1, 2] [4] True ⟨[(4, .one (.e (.sl 2 0 x539.length)))], [.row .nod x1 false, .row .nod x2 false, .row .edt x539 true]⟩ (by kernel_rfl) trivial ?_
      refine WO_nil rfl ?_
      refine thenS_n ?_
      refine W_ret ?_
      cases h
      exact ⟨[0, 1, 2], True, by kernel_rfl, trivial⟩

/- laws.equalEdits -/
def laws_equalEdits_L1 (x1 : List Edt) (x2 : List Edt) : Nat → Int → Option ((Unit) ⊕ (Unit))
| 0, _ => none
| n + 1, i57 =>
 iteO (decide (i57 < ((x1.length : Nat) : Int)))
 (guardO (0 ≤ i57 ∧ i57 < ((x1.length : Nat) : Int)) <|
 guardO (0 ≤ i57 ∧ i57 < ((x2.length : Nat) : Int)) <|
 iteO (!((decide (((x1.getD i57.toNat dedt).kind) = ((x2.getD i57.toNat dedt).kind))) && ((decide (((x1.getD i57.toNat dedt).path) = ((x2.getD i57.toNat dedt).path))) && ((decide (((x1.getD i57.toNat dedt).value) = ((x2.getD i57.toNat dedt).value))) && true))))
 (some (.inl ()))
 (laws_equalEdits_L1 x1 x2 n (w64 (i57 + 1))))
 (some (.inr ()))

theorem laws_equalEdits_L1_ok (w : World) (X : Nat → Prop) (θ : List Loc) (x1 : List Edt) (x2 : List Edt) (v : (Unit) ⊕ (Unit)) : ∀ (n : Nat) (i57 : Int), laws_equalEdits_L1 x1 x2 n i57 = some v → WL EE ⟨w, X, θ, 26, 2⟩ (subC [1, 1, 0, 1, 4, 4] (bodyC Try.f26)) (fun (e : Exit) (s : St) => (match v with | (.inl _) => e = .ret ∧ s = ⟨[(4, B false)], [.row .edt x1 false, .row .edt x2 false]⟩ | (.inr _) => e = .exit 0 ∧ s = ⟨[], [.row .edt x1 false, .row .edt x2 false]⟩ : Prop)) ⟨[(0, .one (.e (.sl 0 0 x1.length))), (1, .one (.e (.sl 1 0 x2.length))), (5, I i57)], [.row .edt x1 false, .row .edt x2 false]⟩ := by
  intro n
  induction n with
  | zero => intro _ h; exact none_e h
  | succ n ih =>
    intro i57 h
    rw [laws_equalEdits_L1] at h
    refine WL_round ?_
    refine W_seq ?_
    refine W_seq ?_
    refine W_region ?_
    refine WO_step 4 [0, 1] [0, 1, 5, 14] (True ∧ (True ∧ True)) ⟨[(0, .one (.e (.sl 0 0 x1.length))), (1, .one (.e (.sl 1 0 x2.length))), (5, I i57), (14, B (decide (i57 < ((x1.length : Nat) : Int))))], [.row .edt x1 false, .row .edt x2 false]⟩ (by kernel_rfl) ⟨trivial, trivial, trivial⟩ ?_
    refine WO_nil rfl ?_
    refine thenS_n ?_
    refine iteO_e h (fun hb71 h => W_true rfl hb71 ?_) (fun hb71 h => W_false rfl hb71 ?_)
    · refine W_sub [0, 1] [0, 1, 5] (st' := ⟨[(0, .one (.e (.sl 0 0 x1.length))), (1, .one (.e (.sl 1 0 x2.length))), (5, I i57)], [.row .edt x1 false, .row .edt x2 false]⟩) (by kernel_rfl) ?_
      refine W_skip ?_
      refine thenS_n ?_
      refine W_seq ?_
      refine W_block ?_
      refine W_seq ?_
      refine guardO_e h (fun hg76 h => ?_)
      refine guardO_e h (fun hg77 h => ?_)
      refine W_cut (Q' := fun (e : Exit) (s : St) => e = .normal ∧ s = ⟨[(0, .one (.e (.sl 0 0 x1.length))), (1, .one (.e (.sl 1 0 x2.length))), (5, I i57), (25, B (!((decide (((x1.getD i57.toNat dedt).kind) = ((x2.getD i57.toNat dedt).kind))) && ((decide (((x1.getD i57.toNat dedt).path) = ((x2.getD i57.toNat dedt).path))) && ((decide (((x1.getD i57.toNat dedt).value) = ((x2.getD i57.toNat dedt).value))) && true)))))], [.row .edt x1 false, .row .edt x2 false]⟩) ?_ ?_
      · refine W_draw [] true (by kernel_rfl) (by kernel_rfl) ?_
        refine WD_takeK [0, 1, 2, 3, 4, 5, 6, 7, 8] [0, 1, 5, 25] [0, 1, 5, 25] (φ := ((0 ≤ i57 ∧ i57 < ((x1.length : Nat) : Int)) ∧ (0 ≤ i57 ∧ i57 < ((x1.length : Nat) : Int)) ∧ (True ∧ True ∧ ((0 ≤ i57 ∧ i57 < ((x2.length : Nat) : Int)) ∧ (0 ≤ i57 ∧ i57 < ((x2.length : Nat) : Int)) ∧ (True ∧ True ∧ (True ∧ True ∧ True)))))) (ls' := #[true, true, true, true, true, true, true, true, true]) (Ts' := [(0, .one (.e (.sl 0 0 x1.length))), (1, .one (.e (.sl 1 0 x2.length))), (5, I i57), (25, B (!((decide (((x1.getD i57.toNat dedt).kind) = ((x2.getD i57.toNat dedt).kind))) && ((decide (((x1.getD i57.toNat dedt).path) = ((x2.getD i57.toNat dedt).path))) && ((decide (((x1.getD i57.toNat dedt).value) = ((x2.getD i57.toNat dedt).value))) && true)))))]) (st' := ⟨[(0, .one (.e (.sl 0 0 x1.length))), (1, .one (.e (.sl 1 0 x2.length))), (5, I i57), (25, B (!((decide (((x1.getD i57.toNat dedt).kind) = ((x2.getD i57.toNat dedt).kind))) && ((decide (((x1.getD i57.toNat dedt).path) = ((x2.getD i57.toNat dedt).path))) && ((decide (((x1.getD i57.toNat dedt).value) = ((x2.getD i57.toNat dedt).value))) && true)))))], [.row .edt x1 false, .row .edt x2 false]⟩) (n2 := 0) (by kernel_rfl) ⟨hg76, hg76, trivial, trivial, hg77, hg77, trivial, trivial, trivial, trivial, trivial⟩ rfl ?_
        exact WD_done [0, 1] [0, 1, 5, 25] (st' := ⟨[(0, .one (.e (.sl 0 0 x1.length))), (1, .one (.e (.sl 1 0 x2.length))), (5, I i57), (25, B (!((decide (((x1.getD i57.toNat dedt).kind) = ((x2.getD i57.toNat dedt).kind))) && ((decide (((x1.getD i57.toNat dedt).path) = ((x2.getD i57.toNat dedt).path))) && ((decide (((x1.getD i57.toNat dedt).value) = ((x2.getD i57.toNat dedt).value))) && true)))))], [.row .edt x1 false, .row .edt x2 false]⟩) (by kernel_rfl) (by kernel_rfl) (And.intro rfl rfl)
      · rintro _ _ ⟨rfl, rfl⟩
        refine thenS_n ?_
        refine iteO_e h (fun hb79 h => W_true rfl hb79 ?_) (fun hb79 h => W_false rfl hb79 ?_)
        · refine W_seq ?_
          refine W_region ?_
          refine WO_step 1 [0, 1] [4] True ⟨[(4, B false)], [.row .edt x1 false, .row .edt x2 false]⟩ (by kernel_rfl) trivial ?_
          refine WO_nil rfl ?_
          refine thenS_n ?_
          refine W_ret ?_
          refine blockS_r ?_
          refine thenS_r ?_
          refine thenS_r ?_
          cases h
          exact And.intro rfl rfl
        · refine W_sub [0, 1] [0, 1, 5] (st' := ⟨[(0, .one (.e (.sl 0 0 x1.length))), (1, .one (.e (.sl 1 0 x2.length))), (5, I i57)], [.row .edt x1 false, .row .edt x2 false]⟩) (by kernel_rfl) ?_
          refine W_skip ?_
          refine blockS_n ?_
          refine thenS_n ?_
          refine W_region ?_
          refine WO_step 3 [0, 1] [0, 1, 5] (True ∧ True) ⟨[(0, .one (.e (.sl 0 0 x1.length))), (1, .one (.e (.sl 1 0 x2.length))), (5, I (w64 (i57 + 1)))], [.row .edt x1 false, .row .edt x2 false]⟩ (by kernel_rfl) ⟨trivial, trivial⟩ ?_
          refine WO_nil rfl ?_
          refine thenS_n ?_
          exact ih _ h
    · refine W_sub [0, 1] [] (st' := ⟨[], [.row .edt x1 false, .row .edt x2 false]⟩) (by kernel_rfl) ?_
      refine W_exit ?_
      refine thenS_e ?_
      refine thenS_e ?_
      cases h
      exact And.intro rfl rfl

def laws_equalEdits (n : Nat) (x1 : List Edt) (x2 : List Edt) : Option (Bool) :=
 iteO (!decide (((x1.length : Nat) : Int) = ((x2.length : Nat) : Int)))
 (some false)
 (bindO (laws_equalEdits_L1 x1 x2 n 0) fun v80 =>
 match v80 with
 | (.inl _) => (some false)
 | (.inr _) => (some true)
)

theorem laws_equalEdits_ok (n : Nat) (x1 : List Edt) (x2 : List Edt) (b41 : Bool) (h : laws_equalEdits n x1 x2 = some b41) : FOk EE 26 [.one (.e (.sl 0 0 x1.length)), .one (.e (.sl 1 0 x2.length))] [.row .edt x1 false, .row .edt x2 false] (B b41) [.row .edt x1 false, .row .edt x2 false] := by
  unfold laws_equalEdits at h
  refine FOk_of_W 26 2 Try.func26 rfl rfl (Nat.le_of_ble_eq_true rfl) rfl (fun w X θ => ?_)
  refine W_seq ?_
  refine W_region ?_
  refine WO_step 1 [0, 1] [0, 1] True ⟨[(0, .one (.e (.sl 0 0 x1.length))), (1, .one (.e (.sl 1 0 x2.length)))], [.row .edt x1 false, .row .edt x2 false]⟩ (by kernel_rfl) trivial ?_
  refine WO_nil rfl ?_
  refine thenS_n ?_
  refine W_seq ?_
  refine W_seq ?_
  refine W_region ?_
  refine WO_step 5 [0, 1] [0, 1, 10] (True ∧ (True ∧ (True ∧ True))) ⟨[(0, .one (.e (.sl 0 0 x1.length))), (1, .one (.e (.sl 1 0 x2.length))), (10, B (!decide (((x1.length : Nat) : Int) = ((x2.length : Nat) : Int))))], [.row .edt x1 false, .row .edt x2 false]⟩ (by kernel_rfl) ⟨trivial, trivial, trivial, trivial⟩ ?_
  refine WO_nil rfl ?_
  refine thenS_n ?_
  refine iteO_e h (fun hb43 h => W_true rfl hb43 ?_) (fun hb43 h => W_false rfl hb43 ?_)
  · refine W_seq ?_
    refine W_region ?_
    refine WO_step 1 [0, 1] [4] True ⟨[(4, B false)], [.row .edt x1 false, .row .edt x2 false]⟩ (by kernel_rfl) trivial ?_
    refine WO_nil rfl ?_
    refine thenS_n ?_
    refine W_ret ?_
    refine thenS_r ?_
    cases h
    exact ⟨[0, 1], True, by kernel_rfl, trivial⟩
  · refine W_sub [0, 1] [0, 1] (st' := ⟨[(0, .one (.e (.sl 0 0 x1.length))), (1, .one (.e (.sl 1 0 x2.length)))], [.row .edt x1 false, .row .edt x2 false]⟩) (by kernel_rfl) ?_
    refine W_skip ?_
    refine thenS_n ?_
    refine W_seq ?_
    refine W_seq ?_
    refine W_region ?_
    refine WO_step 1 [0, 1] [0, 1, 5] True ⟨[(0, .one (.e (.sl 0 0 x1.length))), (1, .one (.e (.sl 1 0 x2.length))), (5, I 0)], [.row .edt x1 false, .row .edt x2 false]⟩ (by kernel_rfl) trivial ?_
    refine WO_nil rfl ?_
    refine thenS_n ?_
    refine W_block ?_
    refine W_loop ?_
    refine bindO_e h (fun v80 hv80 h => ?_)
    refine WL_cut (laws_equalEdits_L1_ok w X θ x1 x2 v80 n 0 hv80) ?_
    rcases v80 with _ | _
    · rintro _ _ ⟨rfl, rfl⟩
      refine blockS_r ?_
      refine thenS_r ?_
      cases h
      exact ⟨[0, 1], True, by kernel_rfl, trivial⟩
    · rintro _ _ ⟨rfl, rfl⟩
      refine blockS_y ?_
      refine thenS_n ?_
      refine W_seq ?_
      refine W_region ?_
      refine WO_step 1 [0, 1] [4] True ⟨[(4, B true)], [.row .edt x1 false, .row .edt x2 false]⟩ (by kernel_rfl) trivial ?_
      refine WO_nil rfl ?_
      refine thenS_n ?_
      refine W_ret ?_
      cases h
      exact ⟨[0, 1], True, by kernel_rfl, trivial⟩

/- impl.SameTree -/
def impl_SameTree_L1 (x1 : List Nod) (x2 : List Nod) : Nat → Int → Option ((Unit) ⊕ (Unit))
| 0, _ => none
| n + 1, i137 =>
 iteO (decide (i137 < ((x1.length : Nat) : Int)))
 (bindO (impl_PathText n x1 i137) fun s177 =>
 bindO (impl_ResolvePath n x2 s177) fun i179 =>
 bindO (iteO (decide (i179 < 0))
 (some true)
 (guardO (0 ≤ i137 ∧ i137 < ((x1.length : Nat) : Int)) <|
 guardO (0 ≤ i179 ∧ i179 < ((x2.length : Nat) : Int)) <|
 some (!decide (((x1.getD i137.toNat dnod).value) = ((x2.getD i179.toNat dnod).value))))) fun b184 =>
 iteO b184
 (some (.inl ()))
 (impl_SameTree_L1 x1 x2 n (w64 (i137 + 1))))
 (some (.inr ()))

theorem impl_SameTree_L1_ok (w : World) (X : Nat → Prop) (θ : List Loc) (x1 : List Nod) (x2 : List Nod) (v : (Unit) ⊕ (Unit)) : ∀ (n : Nat) (i137 : Int), impl_SameTree_L1 x1 x2 n i137 = some v → WL EE ⟨w, X, θ, 48, 2⟩ (subC [1, 1, 0, 1, 4, 4] (bodyC Try.f28)) (fun (e : Exit) (s : St) => (match v with | (.inl _) => e = .ret ∧ s = ⟨[(4, B false)], [.row .nod x1 false, .row .nod x2 false]⟩ | (.inr _) => e = .exit 0 ∧ s = ⟨[], [.row .nod x1 false, .row .nod x2 false]⟩ : Prop)) ⟨[(0, .one (.e (.sl 0 0 x1.length))), (1, .one (.e (.sl 1 0 x2.length))), (23, I ((x1.length : Nat) : Int)), (24, I i137)], [.row .nod x1 false, .row .nod x2 false]⟩ := by
  intro n
  induction n with
  | zero => intro _ h; exact none_e h
  | succ n ih =>
    intro i137 h
    rw [impl_SameTree_L1] at h
    refine WL_round ?_
    refine W_seq ?_
    refine W_region ?_
    refine WO_step 1 [0, 1] [0, 1, 23, 24, 25] (True ∧ True) ⟨[(0, .one (.e (.sl 0 0 x1.length))), (1, .one (.e (.sl 1 0 x2.length))), (23, I ((x1.length : Nat) : Int)), (24, I i137), (25, B (decide (i137 < ((x1.length : Nat) : Int))))], [.row .nod x1 false, .row .nod x2 false]⟩ (by kernel_rfl) ⟨trivial, trivial⟩ ?_
    refine WO_nil rfl ?_
    refine thenS_n ?_
    refine W_seq ?_
    refine iteO_e h (fun hb165 h => W_true rfl hb165 ?_) (fun hb165 h => W_false rfl hb165 ?_)
    · refine W_sub [0, 1] [0, 1, 23, 24] (st' := ⟨[(0, .one (.e (.sl 0 0 x1.length))), (1, .one (.e (.sl 1 0 x2.length))), (23, I ((x1.length : Nat) : Int)), (24, I i137)], [.row .nod x1 false, .row .nod x2 false]⟩) (by kernel_rfl) ?_
      refine W_skip ?_
      refine thenS_n ?_
      refine W_seq ?_
      refine W_block ?_
      refine W_seq ?_
      refine W_region ?_
      refine WO_step 2 [0, 1] [0, 1, 5, 23, 24] True ⟨[(0, .one (.e (.sl 0 0 x1.length))), (1, .one (.e (.sl 1 0 x2.length))), (5, I i137), (23, I ((x1.length : Nat) : Int)), (24, I i137)], [.row .nod x1 false, .row .nod x2 false]⟩ (by kernel_rfl) trivial ?_
      refine WO_nil rfl ?_
      refine thenS_n ?_
      refine W_seq ?_
      refine W_region ?_
      refine WO_step 3 [0, 1] [0, 1, 5, 23, 24, 27, 28, 29] True ⟨[(0, .one (.e (.sl 0 0 x1.length))), (1, .one (.e (.sl 1 0 x2.length))), (5, I i137), (23, I ((x1.length : Nat) : Int)), (24, I i137), (27, .one (.e (.sl 1 0 x2.length))), (28, .one (.e (.sl 0 0 x1.length))), (29, I i137)], [.row .nod x1 false, .row .nod x2 false]⟩ (by kernel_rfl) trivial ?_
      refine bindO_e h (fun s177 hc178 h => ?_)
      refine WO_call [.ro 0] Try.f53 rfl rfl rfl (by kernel_rfl) Try.func53 rfl (by kernel_rfl) (impl_PathText_ok n x1 i137 s177 hc178) (And.intro (And.intro rfl rfl) (trivial)) rfl ?_
      refine WO_sub [0, 1] [0, 1, 5, 23, 24, 27, 30] (st' := ⟨[(0, .one (.e (.sl 0 0 x1.length))), (1, .one (.e (.sl 1 0 x2.length))), (5, I i137), (23, I ((x1.length : Nat) : Int)), (24, I i137), (27, .one (.e (.sl 1 0 x2.length))), (30, S s177)], [.row .nod x1 false, .row .nod x2 false]⟩) (by kernel_rfl) ?_
      refine bindO_e h (fun i179 hc180 h => ?_)
      refine WO_call [.ro 1] Try.f14 rfl rfl rfl (by kernel_rfl) Try.func14 rfl (by kernel_rfl) (impl_ResolvePath_ok n x2 s177 i179 hc180) (And.intro (And.intro rfl rfl) (trivial)) rfl ?_
      refine WO_step 1 [0, 1] [0, 1, 5, 6, 23, 24] True ⟨[(0, .one (.e (.sl 0 0 x1.length))), (1, .one (.e (.sl 1 0 x2.length))), (5, I i137), (6, I i179), (23, I ((x1.length : Nat) : Int)), (24, I i137)], [.row .nod x1 false, .row .nod x2 false]⟩ (by kernel_rfl) trivial ?_
      refine WO_nil rfl ?_
      refine thenS_n ?_
      refine W_seq ?_
      refine bindO_e h (fun b184 hv185 h => ?_)
      refine W_cut (Q' := fun (e : Exit) (s : St) => e = .normal ∧ s = ⟨[(0, .one (.e (.sl 0 0 x1.length))), (1, .one (.e (.sl 1 0 x2.length))), (23, I ((x1.length : Nat) : Int)), (24, I i137), (46, B b184)], [.row .nod x1 false, .row .nod x2 false]⟩) ?_ ?_
      · refine iteO_e hv185 (fun hb181 hv185 => ?_) (fun hb181 hv185 => ?_)
        · refine W_draw [] true (by kernel_rfl) (by kernel_rfl) ?_
          refine WD_takeK [0, 1, 2] [0, 1, 5, 6, 23, 24, 34] [0, 1, 5, 6, 23, 24, 34] (φ := (True ∧ True ∧ True)) (ls' := #[true, true, true, false, false, false, false, false, false, false, false, false, false, false, false]) (Ts' := [(0, .one (.e (.sl 0 0 x1.length))), (1, .one (.e (.sl 1 0 x2.length))), (5, I i137), (6, I i179), (23, I ((x1.length : Nat) : Int)), (24, I i137), (34, B (decide (i179 < 0)))]) (st' := ⟨[(0, .one (.e (.sl 0 0 x1.length))), (1, .one (.e (.sl 1 0 x2.length))), (5, I i137), (6, I i179), (23, I ((x1.length : Nat) : Int)), (24, I i137), (34, B (decide (i179 < 0)))], [.row .nod x1 false, .row .nod x2 false]⟩) (n2 := 12) (by kernel_rfl) ⟨trivial, trivial, trivial⟩ rfl ?_
          refine WD_known 34 true rfl rfl hb181 ?_
          refine WD_takeK [3, 4, 5, 6, 7, 8, 9, 10, 11, 12, 13, 14] [0, 1, 23, 24, 46] [0, 1, 23, 24, 46] (φ := True) (ls' := #[true, true, true, true, true, true, true, true, true, true, true, true, true, true, true]) (Ts' := [(0, .one (.e (.sl 0 0 x1.length))), (1, .one (.e (.sl 1 0 x2.length))), (23, I ((x1.length : Nat) : Int)), (24, I i137), (46, B true)]) (st' := ⟨[(0, .one (.e (.sl 0 0 x1.length))), (1, .one (.e (.sl 1 0 x2.length))), (23, I ((x1.length : Nat) : Int)), (24, I i137), (46, B true)], [.row .nod x1 false, .row .nod x2 false]⟩) (n2 := 0) (by kernel_rfl) trivial rfl ?_
          exact WD_done [0, 1] [0, 1, 23, 24, 46] (st' := ⟨[(0, .one (.e (.sl 0 0 x1.length))), (1, .one (.e (.sl 1 0 x2.length))), (23, I ((x1.length : Nat) : Int)), (24, I i137), (46, B true)], [.row .nod x1 false, .row .nod x2 false]⟩) (by kernel_rfl) (by kernel_rfl) (And.intro rfl (by cases hv185; rfl))
        · refine guardO_e hv185 (fun hg182 hv185 => ?_)
          refine guardO_e hv185 (fun hg183 hv185 => ?_)
          refine W_draw [] true (by kernel_rfl) (by kernel_rfl) ?_
          refine WD_takeK [0, 1, 2] [0, 1, 5, 6, 23, 24, 34] [0, 1, 5, 6, 23, 24, 34] (φ := (True ∧ True ∧ True)) (ls' := #[true, true, true, false, false, false, false, false, false, false, false, false, false, false, false]) (Ts' := [(0, .one (.e (.sl 0 0 x1.length))), (1, .one (.e (.sl 1 0 x2.length))), (5, I i137), (6, I i179), (23, I ((x1.length : Nat) : Int)), (24, I i137), (34, B (decide (i179 < 0)))]) (st' := ⟨[(0, .one (.e (.sl 0 0 x1.length))), (1, .one (.e (.sl 1 0 x2.length))), (5, I i137), (6, I i179), (23, I ((x1.length : Nat) : Int)), (24, I i137), (34, B (decide (i179 < 0)))], [.row .nod x1 false, .row .nod x2 false]⟩) (n2 := 12) (by kernel_rfl) ⟨trivial, trivial, trivial⟩ rfl ?_
          refine WD_known 34 false rfl rfl hb181 ?_
          refine WD_takeK [3, 4, 5, 6, 7, 8, 9, 10, 11, 12, 13, 14] [0, 1, 23, 24, 46] [0, 1, 23, 24, 46] (φ := ((0 ≤ i137 ∧ i137 < ((x1.length : Nat) : Int)) ∧ (0 ≤ i137 ∧ i137 < ((x1.length : Nat) : Int)) ∧ (True ∧ True ∧ ((0 ≤ i179 ∧ i179 < ((x2.length : Nat) : Int)) ∧ (0 ≤ i179 ∧ i179 < ((x2.length : Nat) : Int)) ∧ (True ∧ True ∧ (True ∧ True ∧ True)))))) (ls' := #[true, true, true, true, true, true, true, true, true, true, true, true, true, true, true]) (Ts' := [(0, .one (.e (.sl 0 0 x1.length))), (1, .one (.e (.sl 1 0 x2.length))), (23, I ((x1.length : Nat) : Int)), (24, I i137), (46, B (!decide (((x1.getD i137.toNat dnod).value) = ((x2.getD i179.toNat dnod).value))))]) (st' := ⟨[(0, .one (.e (.sl 0 0 x1.length))), (1, .one (.e (.sl 1 0 x2.length))), (23, I ((x1.length : Nat) : Int)), (24, I i137), (46, B (!decide (((x1.getD i137.toNat dnod).value) = ((x2.getD i179.toNat dnod).value))))], [.row .nod x1 false, .row .nod x2 false]⟩) (n2 := 0) (by kernel_rfl) ⟨hg182, hg182, trivial, trivial, hg183, hg183, trivial, trivial, trivial, trivial, trivial⟩ rfl ?_
          exact WD_done [0, 1] [0, 1, 23, 24, 46] (st' := ⟨[(0, .one (.e (.sl 0 0 x1.length))), (1, .one (.e (.sl 1 0 x2.length))), (23, I ((x1.length : Nat) : Int)), (24, I i137), (46, B (!decide (((x1.getD i137.toNat dnod).value) = ((x2.getD i179.toNat dnod).value))))], [.row .nod x1 false, .row .nod x2 false]⟩) (by kernel_rfl) (by kernel_rfl) (And.intro rfl (by cases hv185; rfl))
      · rintro _ _ ⟨rfl, rfl⟩
        refine thenS_n ?_
        refine iteO_e h (fun hb187 h => W_true rfl hb187 ?_) (fun hb187 h => W_false rfl hb187 ?_)
        · refine W_seq ?_
          refine W_region ?_
          refine WO_step 1 [0, 1] [4] True ⟨[(4, B false)], [.row .nod x1 false, .row .nod x2 false]⟩ (by kernel_rfl) trivial ?_
          refine WO_nil rfl ?_
          refine thenS_n ?_
          refine W_ret ?_
          refine blockS_r ?_
          refine thenS_r ?_
          refine thenS_r ?_
          cases h
          exact And.intro rfl rfl
        · refine W_sub [0, 1] [0, 1, 23, 24] (st' := ⟨[(0, .one (.e (.sl 0 0 x1.length))), (1, .one (.e (.sl 1 0 x2.length))), (23, I ((x1.length : Nat) : Int)), (24, I i137)], [.row .nod x1 false, .row .nod x2 false]⟩) (by kernel_rfl) ?_
          refine W_skip ?_
          refine blockS_n ?_
          refine thenS_n ?_
          refine W_region ?_
          refine WO_step 2 [0, 1] [0, 1, 23, 24] (True ∧ True) ⟨[(0, .one (.e (.sl 0 0 x1.length))), (1, .one (.e (.sl 1 0 x2.length))), (23, I ((x1.length : Nat) : Int)), (24, I (w64 (i137 + 1)))], [.row .nod x1 false, .row .nod x2 false]⟩ (by kernel_rfl) ⟨trivial, trivial⟩ ?_
          refine WO_nil rfl ?_
          refine thenS_n ?_
          exact ih _ h
    · refine W_sub [0, 1] [] (st' := ⟨[], [.row .nod x1 false, .row .nod x2 false]⟩) (by kernel_rfl) ?_
      refine W_exit ?_
      refine thenS_e ?_
      refine thenS_e ?_
      cases h
      exact And.intro rfl rfl

def impl_SameTree (n : Nat) (x1 : List Nod) (x2 : List Nod) : Option (Bool) :=
 bindO (impl_ValidTree n x1) fun b96 =>
 bindO (iteO (!b96)
 (some true)
 (bindO (impl_ValidTree n x2) fun b105 =>
 iteO (!b105)
 (some true)
 (some (!decide (((x1.length : Nat) : Int) = ((x2.length : Nat) : Int)))))) fun b102 =>
 iteO b102
 (some false)
 (bindO (impl_SameTree_L1 x1 x2 n 0) fun v188 =>
 match v188 with
 | (.inl _) => (some false)
 | (.inr _) => (some true)
)

theorem impl_SameTree_ok (n : Nat) (x1 : List Nod) (x2 : List Nod) (b95 : Bool) (h : impl_SameTree n x1 x2 = some b95) : FOk EE 28 [.one (.e (.sl 0 0 x1.length)), .one (.e (.sl 1 0 x2.length))] [.row .nod x1 false, .row .nod x2 false] (B b95) [.row .nod x1 false, .row .nod x2 false] := by
  unfold impl_SameTree at h
  refine FOk_of_W 48 2 Try.func28 rfl rfl (Nat.le_of_ble_eq_true rfl) rfl (fun w X θ => ?_)
  refine W_seq ?_
  refine W_region ?_
  refine WO_step 1 [0, 1] [0, 1] True ⟨[(0, .one (.e (.sl 0 0 x1.length))), (1, .one (.e (.sl 1 0 x2.length)))], [.row .nod x1 false, .row .nod x2 false]⟩ (by kernel_rfl) trivial ?_
  refine WO_nil rfl ?_
  refine thenS_n ?_
  refine W_seq ?_
  refine W_seq ?_
  refine W_region ?_
  refine WO_step 1 [0, 1] [0, 1, 7] True ⟨[(0, .one (.e (.sl 0 0 x1.length))), (1, .one (.e (.sl 1 0 x2.length))), (7, .one (.e (.sl 0 0 x1.length)))], [.row .nod x1 false, .row .nod x2 false]⟩ (by kernel_rfl) trivial ?_
  refine bindO_e h (fun b96 hc97 h => ?_)
  refine WO_call [.ro 0] Try.f13 rfl rfl rfl (by kernel_rfl) Try.func13 rfl (by kernel_rfl) (impl_ValidTree_ok n x1 b96 hc97) (And.intro (And.intro rfl rfl) (trivial)) rfl ?_
  refine WO_step 2 [0, 1] [0, 1, 10] True ⟨[(0, .one (.e (.sl 0 0 x1.length))), (1, .one (.e (.sl 1 0 x2.length))), (10, B (!b96))], [.row .nod x1 false, .row .nod x2 false]⟩ (by kernel_rfl) trivial ?_
  refine bindO_e h (fun b102 hv103 h => ?_)
  refine WO_thru ⟨[(0, .one (.e (.sl 0 0 x1.length))), (1, .one (.e (.sl 1 0 x2.length))), (21, B b102)], [.row .nod x1 false, .row .nod x2 false]⟩ ?_ ?_
  · refine iteO_e hv103 (fun hb104 hv103 => WO_known 10 true rfl hb104 ?_) (fun hb104 hv103 => WO_known 10 false rfl hb104 ?_)
    · refine WO_step 11 [0, 1] [0, 1, 21] True ⟨[(0, .one (.e (.sl 0 0 x1.length))), (1, .one (.e (.sl 1 0 x2.length))), (21, B true)], [.row .nod x1 false, .row .nod x2 false]⟩ (by kernel_rfl) trivial ?_
      cases hv103
      exact WO_nil rfl ⟨rfl, rfl⟩
    · refine WO_step 1 [0, 1] [0, 1, 10, 11] True ⟨[(0, .one (.e (.sl 0 0 x1.length))), (1, .one (.e (.sl 1 0 x2.length))), (10, B false), (11, .one (.e (.sl 1 0 x2.length)))], [.row .nod x1 false, .row .nod x2 false]⟩ (by kernel_rfl) trivial ?_
      refine bindO_e hv103 (fun b105 hc106 hv103 => ?_)
      refine WO_call [.ro 1] Try.f13 rfl rfl rfl (by kernel_rfl) Try.func13 rfl (by kernel_rfl) (impl_ValidTree_ok n x2 b105 hc106) (And.intro (And.intro rfl rfl) (trivial)) rfl ?_
      refine WO_step 3 [0, 1] [0, 1, 15] True ⟨[(0, .one (.e (.sl 0 0 x1.length))), (1, .one (.e (.sl 1 0 x2.length))), (15, B (!b105))], [.row .nod x1 false, .row .nod x2 false]⟩ (by kernel_rfl) trivial ?_
      refine iteO_e hv103 (fun hb107 hv103 => WO_known 15 true rfl hb107 ?_) (fun hb107 hv103 => WO_known 15 false rfl hb107 ?_)
      · refine WO_step 6 [0, 1] [0, 1, 21] True ⟨[(0, .one (.e (.sl 0 0 x1.length))), (1, .one (.e (.sl 1 0 x2.length))), (21, B true)], [.row .nod x1 false, .row .nod x2 false]⟩ (by kernel_rfl) trivial ?_
        cases hv103
        exact WO_nil rfl ⟨rfl, rfl⟩
      · refine WO_step 6 [0, 1] [0, 1, 21] (True ∧ (True ∧ (True ∧ True))) ⟨[(0, .one (.e (.sl 0 0 x1.length))), (1, .one (.e (.sl 1 0 x2.length))), (21, B (!decide (((x1.length : Nat) : Int) = ((x2.length : Nat) : Int))))], [.row .nod x1 false, .row .nod x2 false]⟩ (by kernel_rfl) ⟨trivial, trivial, trivial, trivial⟩ ?_
        cases hv103
        exact WO_nil rfl ⟨rfl, rfl⟩
  · refine thenS_n ?_
    refine iteO_e h (fun hb109 h => W_true rfl hb109 ?_) (fun hb109 h => W_false rfl hb109 ?_)
    · refine W_seq ?_
      refine W_region ?_
      refine WO_step 1 [0, 1] [4] True ⟨[(4, B false)], [.row .nod x1 false, .row .nod x2 false]⟩ (by kernel_rfl) trivial ?_
      refine WO_nil rfl ?_
      refine thenS_n ?_
      refine W_ret ?_
      refine thenS_r ?_
      cases h
      exact ⟨[0, 1], True, by kernel_rfl, trivial⟩
    · refine W_sub [0, 1] [0, 1] (st' := ⟨[(0, .one (.e (.sl 0 0 x1.length))), (1, .one (.e (.sl 1 0 x2.length)))], [.row .nod x1 false, .row .nod x2 false]⟩) (by kernel_rfl) ?_
      refine W_skip ?_
      refine thenS_n ?_
      refine W_seq ?_
      refine W_seq ?_
      refine W_region ?_
      refine WO_step 3 [0, 1] [0, 1, 23, 24] (True ∧ True) ⟨[(0, .one (.e (.sl 0 0 x1.length))), (1, .one (.e (.sl 1 0 x2.length))), (23, I ((x1.length : Nat) : Int)), (24, I 0)], [.row .nod x1 false, .row .nod x2 false]⟩ (by kernel_rfl) ⟨trivial, trivial⟩ ?_
      refine WO_nil rfl ?_
      refine thenS_n ?_
      refine W_block ?_
      refine W_loop ?_
      refine bindO_e h (fun v188 hv188 h => ?_)
      refine WL_cut (impl_SameTree_L1_ok w X θ x1 x2 v188 n 0 hv188) ?_
      rcases v188 with _ | _
      · rintro _ _ ⟨rfl, rfl⟩
        refine blockS_r ?_
        refine thenS_r ?_
        cases h
        exact ⟨[0, 1], True, by kernel_rfl, trivial⟩
      · rintro _ _ ⟨rfl, rfl⟩
        refine blockS_y ?_
        refine thenS_n ?_
        refine W_seq ?_
        refine W_region ?_
        refine WO_step 1 [0, 1] [4] True ⟨[(4, B true)], [.row .nod x1 false, .row .nod x2 false]⟩ (by kernel_rfl) trivial ?_
        refine WO_nil rfl ?_
        refine thenS_n ?_
        refine W_ret ?_
        cases h
        exact ⟨[0, 1], True, by kernel_rfl, trivial⟩

/- laws.FnEditsBetweenSame -/
def laws_FnEditsBetweenSame (n : Nat) (x1 : List Int) : Option (Bool) :=
 iteO (decide (1048576 < ((x1.length : Nat) : Int)))
 (some true)
 (bindO (spec_DrawEditsBetween n x1) fun (x55, x56, k57, k58, k59, k60) =>
 bindO (impl_EditsBetween n ((x55.drop k57).take k58) ((x56.drop k59).take k60)) fun x62 =>
 bindO (spec_EditsBetween n ((x55.drop k57).take k58) ((x56.drop k59).take k60)) fun x64 =>
 bindO (laws_equalEdits n x62 x64) fun b66 =>
 bindO (iteO (!b66)
 (some true)
 (bindO (impl_ValidTree n ((x55.drop k57).take k58)) fun b77 =>
 iteO (!b77)
 (some true)
 (bindO (impl_ValidTree n ((x56.drop k59).take k60)) fun b80 =>
 some (!b80)))) fun b74 =>
 iteO b74
 (bindO (spec_EditsBetween n ((x55.drop k57).take k58) ((x56.drop k59).take k60)) fun x88 =>
 bindO (laws_equalEdits n x62 x88) fun b90 =>
 some b90)
 (bindO (impl_EditsBetween n ((x55.drop k57).take k58) ((x55.drop k57).take k58)) fun x92 =>
 bindO (iteO (decide (((x92.length : Nat) : Int) = 0))
 (bindO (impl_SameTree n ((x55.drop k57).take k58) ((x56.drop k59).take k60)) fun b100 =>
 some ((decide (((x62.length : Nat) : Int) = 0)) == b100))
 (some false)) fun b97 =>
 some b97))

theorem laws_FnEditsBetweenSame_ok (n : Nat) (x1 : List Int) (b52 : Bool) (h : laws_FnEditsBetweenSame n x1 = some b52) : FOk EE 8 [.one (.e (.sl 0 0 x1.length))] [.row .u8 x1 false] (B b52) [.row .u8 x1 false] := by
  unfold laws_FnEditsBetweenSame at h
  refine FOk_of_W 52 1 Try.func8 rfl rfl (Nat.le_of_ble_eq_true rfl) rfl (fun w X θ => ?_)
  refine W_seq ?_
  refine W_region ?_
  refine WO_step 1 [0] [0] True ⟨[(0, .one (.e (.sl 0 0 x1.length)))], [.row .u8 x1 false]⟩ (by kernel_rfl) trivial ?_
  refine WO_nil rfl ?_
  refine thenS_n ?_
  refine W_seq ?_
  refine W_seq ?_
  refine W_region ?_
  refine WO_step 3 [0] [0, 8] (True ∧ (True ∧ True)) ⟨[(0, .one (.e (.sl 0 0 x1.length))), (8, B (decide (1048576 < ((x1.length : Nat) : Int))))], [.row .u8 x1 false]⟩ (by kernel_rfl) ⟨trivial, trivial, trivial⟩ ?_
  refine WO_nil rfl ?_
  refine thenS_n ?_
  refine iteO_e h (fun hb54 h => W_true rfl hb54 ?_) (fun hb54 h => W_false rfl hb54 ?_)
  · refine W_seq ?_
    refine W_region ?_
    refine WO_step 1 [0] [2] True ⟨[(2, B true)], [.row .u8 x1 false]⟩ (by kernel_rfl) trivial ?_
    refine WO_nil rfl ?_
    refine thenS_n ?_
    refine W_ret ?_
    refine thenS_r ?_
    cases h
    exact ⟨[0], True, by kernel_rfl, trivial⟩
  · refine W_sub [0] [0] (st' := ⟨[(0, .one (.e (.sl 0 0 x1.length)))], [.row .u8 x1 false]⟩) (by kernel_rfl) ?_
    refine W_skip ?_
    refine thenS_n ?_
    refine W_seq ?_
    refine W_region ?_
    refine WO_step 1 [0] [10] True ⟨[(10, .one (.e (.sl 0 0 x1.length)))], [.row .u8 x1 false]⟩ (by kernel_rfl) trivial ?_
    refine bindO_e h (fun v102 hc61 h => ?_)
    obtain ⟨x55, x56, k57, k58, k59, k60⟩ := v102
    refine WO_call [.ro 0] Try.f24 rfl rfl rfl (by kernel_rfl) Try.func24 rfl (by kernel_rfl) (spec_DrawEditsBetween_ok n x1 x55 x56 k57 k58 k59 k60 hc61) (And.intro (And.intro rfl rfl) (trivial)) rfl ?_
    refine WO_step 5 [0, 1, 2] [3, 4] True ⟨[(3, .one (.e (.sl 1 k57 k58))), (4, .one (.e (.sl 2 k59 k60)))], [.row .u8 x1 false, .row .nod x55 true, .row .nod x56 true]⟩ (by kernel_rfl) trivial ?_
    refine WO_nil rfl ?_
    refine thenS_n ?_
    refine W_seq ?_
    refine W_region ?_
    refine WO_step 2 [0, 1, 2] [3, 4, 14, 15] True ⟨[(3, .one (.e (.sl 1 k57 k58))), (4, .one (.e (.sl 2 k59 k60))), (14, .one (.e (.sl 1 k57 k58))), (15, .one (.e (.sl 2 k59 k60)))], [.row .u8 x1 false, .row .nod x55 true, .row .nod x56 true]⟩ (by kernel_rfl) trivial ?_
    refine bindO_e h (fun x62 hc63 h => ?_)
    refine WO_call [.view 0, .view 1] Try.f25 rfl rfl rfl (by kernel_rfl) Try.func25 rfl (by kernel_rfl) (impl_EditsBetween_ok n ((x55.drop k57).take k58) ((x56.drop k59).take k60) x62 hc63) (trivial) rfl ?_
    refine WO_step 1 [0, 1, 2, 3] [3, 4, 5] True ⟨[(3, .one (.e (.sl 1 k57 k58))), (4, .one (.e (.sl 2 k59 k60))), (5, .one (.e (.sl 3 0 x62.length)))], [.row .u8 x1 false, .row .nod x55 true, .row .nod x56 true, .row .edt x62 true]⟩ (by kernel_rfl) trivial ?_
    refine WO_nil rfl ?_
    refine thenS_n ?_
    refine W_seq ?_
    refine W_seq ?_
    refine W_region ?_
    refine WO_step 3 [0, 1, 2, 3] [3, 4, 5, 17, 18, 19] True ⟨[(3, .one (.e (.sl 1 k57 k58))), (4, .one (.e (.sl 2 k59 k60))), (5, .one (.e (.sl 3 0 x62.length))), (17, .one (.e (.sl 3 0 x62.length))), (18, .one (.e (.sl 1 k57 k58))), (19, .one (.e (.sl 2 k59 k60)))], [.row .u8 x1 false, .row .nod x55 true, .row .nod x56 true, .row .edt x62 true]⟩ (by kernel_rfl) trivial ?_
    refine bindO_e h (fun x64 hc65 h => ?_)
    refine WO_call [.view 0, .view 1] Try.f27 rfl rfl rfl (by kernel_rfl) Try.func27 rfl (by kernel_rfl) (spec_EditsBetween_ok n ((x55.drop k57).take k58) ((x56.drop k59).take k60) x64 hc65) (trivial) rfl ?_
    refine WO_sub [0, 1, 2, 3, 4] [3, 4, 5, 17, 20] (st' := ⟨[(3, .one (.e (.sl 1 k57 k58))), (4, .one (.e (.sl 2 k59 k60))), (5, .one (.e (.sl 3 0 x62.length))), (17, .one (.e (.sl 3 0 x62.length))), (20, .one (.e (.sl 4 0 x64.length)))], [.row .u8 x1 false, .row .nod x55 true, .row .nod x56 true, .row .edt x62 true, .row .edt x64 true]⟩) (by kernel_rfl) ?_
    refine bindO_e h (fun b66 hc67 h => ?_)
    refine WO_call [.ro 3, .ro 4] Try.f26 rfl rfl rfl (by kernel_rfl) Try.func26 rfl (by kernel_rfl) (laws_equalEdits_ok n x62 x64 b66 hc67) (And.intro (And.intro rfl rfl) (And.intro (And.intro rfl rfl) (trivial))) rfl ?_
    refine WO_step 2 [0, 1, 2, 3] [3, 4, 5, 23] True ⟨[(3, .one (.e (.sl 1 k57 k58))), (4, .one (.e (.sl 2 k59 k60))), (5, .one (.e (.sl 3 0 x62.length))), (23, B (!b66))], [.row .u8 x1 false, .row .nod x55 true, .row .nod x56 true, .row .edt x62 true]⟩ (by kernel_rfl) trivial ?_
    refine bindO_e h (fun b74 hv75 h => ?_)
    refine WO_thru ⟨[(3, .one (.e (.sl 1 k57 k58))), (4, .one (.e (.sl 2 k59 k60))), (5, .one (.e (.sl 3 0 x62.length))), (32, B b74)], [.row .u8 x1 false, .row .nod x55 true, .row .nod x56 true, .row .edt x62 true]⟩ ?_ ?_
    · refine iteO_e hv75 (fun hb76 hv75 => WO_known 23 true rfl hb76 ?_) (fun hb76 hv75 => WO_known 23 false rfl hb76 ?_)
      · refine WO_step 9 [0, 1, 2, 3] [3, 4, 5, 32] True ⟨[(3, .one (.e (.sl 1 k57 k58))), (4, .one (.e (.sl 2 k59 k60))), (5, .one (.e (.sl 3 0 x62.length))), (32, B true)], [.row .u8 x1 false, .row .nod x55 true, .row .nod x56 true, .row .edt x62 true]⟩ (by kernel_rfl) trivial ?_
        cases hv75
        exact WO_nil rfl ⟨rfl, rfl⟩
      · refine WO_step 1 [0, 1, 2, 3] [3, 4, 5, 23, 24] True ⟨[(3, .one (.e (.sl 1 k57 k58))), (4, .one (.e (.sl 2 k59 k60))), (5, .one (.e (.sl 3 0 x62.length))), (23, B false), (24, .one (.e (.sl 1 k57 k58)))], [.row .u8 x1 false, .row .nod x55 true, .row .nod x56 true, .row .edt x62 true]⟩ (by kernel_rfl) trivial ?_
        refine bindO_e hv75 (fun b77 hc78 hv75 => ?_)
        refine WO_call [.view 0] Try.f13 rfl rfl rfl (by kernel_rfl) Try.func13 rfl (by kernel_rfl) (impl_ValidTree_ok n ((x55.drop k57).take k58) b77 hc78) (trivial) rfl ?_
        refine WO_step 3 [0, 1, 2, 3] [3, 4, 5, 28] True ⟨[(3, .one (.e (.sl 1 k57 k58))), (4, .one (.e (.sl 2 k59 k60))), (5, .one (.e (.sl 3 0 x62.length))), (28, B (!b77))], [.row .u8 x1 false, .row .nod x55 true, .row .nod x56 true, .row .edt x62 true]⟩ (by kernel_rfl) trivial ?_
        refine iteO_e hv75 (fun hb79 hv75 => WO_known 28 true rfl hb79 ?_) (fun hb79 hv75 => WO_known 28 false rfl hb79 ?_)
        · refine WO_step 4 [0, 1, 2, 3] [3, 4, 5, 32] True ⟨[(3, .one (.e (.sl 1 k57 k58))), (4, .one (.e (.sl 2 k59 k60))), (5, .one (.e (.sl 3 0 x62.length))), (32, B true)], [.row .u8 x1 false, .row .nod x55 true, .row .nod x56 true, .row .edt x62 true]⟩ (by kernel_rfl) trivial ?_
          cases hv75
          exact WO_nil rfl ⟨rfl, rfl⟩
        · refine WO_step 1 [0, 1, 2, 3] [3, 4, 5, 28, 29] True ⟨[(3, .one (.e (.sl 1 k57 k58))), (4, .one (.e (.sl 2 k59 k60))), (5, .one (.e (.sl 3 0 x62.length))), (28, B false), (29, .one (.e (.sl 2 k59 k60)))], [.row .u8 x1 false, .row .nod x55 true, .row .nod x56 true, .row .edt x62 true]⟩ (by kernel_rfl) trivial ?_
          refine bindO_e hv75 (fun b80 hc81 hv75 => ?_)
          refine WO_call [.view 0] Try.f13 rfl rfl rfl (by kernel_rfl) Try.func13 rfl (by kernel_rfl) (impl_ValidTree_ok n ((x56.drop k59).take k60) b80 hc81) (trivial) rfl ?_
          refine WO_step 2 [0, 1, 2, 3] [3, 4, 5, 32] True ⟨[(3, .one (.e (.sl 1 k57 k58))), (4, .one (.e (.sl 2 k59 k60))), (5, .one (.e (.sl 3 0 x62.length))), (32, B (!b80))], [.row .u8 x1 false, .row .nod x55 true, .row .nod x56 true, .row .edt x62 true]⟩ (by kernel_rfl) trivial ?_
          cases hv75
          exact WO_nil rfl ⟨rfl, rfl⟩
    · refine thenS_n ?_
      refine iteO_e h (fun hb87 h => W_true rfl hb87 ?_) (fun hb87 h => W_false rfl hb87 ?_)
      · refine W_seq ?_
        refine W_region ?_
        refine WO_step 3 [0, 3, 1, 2] [33, 34, 35] True ⟨[(33, .one (.e (.sl 1 0 x62.length))), (34, .one (.e (.sl 2 k57 k58))), (35, .one (.e (.sl 3 k59 k60)))], [.row .u8 x1 false, .row .edt x62 true, .row .nod x55 true, .row .nod x56 true]⟩ (by kernel_rfl) trivial ?_
        refine bindO_e h (fun x88 hc89 h => ?_)
        refine WO_call [.view 0, .view 1] Try.f27 rfl rfl rfl (by kernel_rfl) Try.func27 rfl (by kernel_rfl) (spec_EditsBetween_ok n ((x55.drop k57).take k58) ((x56.drop k59).take k60) x88 hc89) (trivial) rfl ?_
        refine WO_sub [0, 1, 4] [33, 36] (st' := ⟨[(33, .one (.e (.sl 1 0 x62.length))), (36, .one (.e (.sl 2 0 x88.length)))], [.row .u8 x1 false, .row .edt x62 true, .row .edt x88 true]⟩) (by kernel_rfl) ?_
        refine bindO_e h (fun b90 hc91 h => ?_)
        refine WO_call [.ro 1, .ro 2] Try.f26 rfl rfl rfl (by kernel_rfl) Try.func26 rfl (by kernel_rfl) (laws_equalEdits_ok n x62 x88 b90 hc91) (And.intro (And.intro rfl rfl) (And.intro (And.intro rfl rfl) (trivial))) rfl ?_
        refine WO_step 1 [0] [2] True ⟨[(2, B b90)], [.row .u8 x1 false]⟩ (by kernel_rfl) trivial ?_
        refine WO_nil rfl ?_
        refine thenS_n ?_
        refine W_ret ?_
        refine thenS_r ?_
        cases h
        exact ⟨[0], True, by kernel_rfl, trivial⟩
      · refine W_sub [0, 1, 2, 3] [3, 4, 5] (st' := ⟨[(3, .one (.e (.sl 1 k57 k58))), (4, .one (.e (.sl 2 k59 k60))), (5, .one (.e (.sl 3 0 x62.length)))], [.row .u8 x1 false, .row .nod x55 true, .row .nod x56 true, .row .edt x62 true]⟩) (by kernel_rfl) ?_
        refine W_skip ?_
        refine thenS_n ?_
        refine W_seq ?_
        refine W_region ?_
        refine WO_step 2 [0, 1, 2, 3] [3, 4, 5, 38, 39] True ⟨[(3, .one (.e (.sl 1 k57 k58))), (4, .one (.e (.sl 2 k59 k60))), (5, .one (.e (.sl 3 0 x62.length))), (38, .one (.e (.sl 1 k57 k58))), (39, .one (.e (.sl 1 k57 k58)))], [.row .u8 x1 false, .row .nod x55 true, .row .nod x56 true, .row .edt x62 true]⟩ (by kernel_rfl) trivial ?_
        refine bindO_e h (fun x92 hc93 h => ?_)
        refine WO_call [.view 0, .view 1] Try.f25 rfl rfl rfl (by kernel_rfl) Try.func25 rfl (by kernel_rfl) (impl_EditsBetween_ok n ((x55.drop k57).take k58) ((x55.drop k57).take k58) x92 hc93) (trivial) rfl ?_
        refine WO_step 3 [0, 1, 2, 3] [3, 4, 5, 43] (True ∧ (True ∧ True)) ⟨[(3, .one (.e (.sl 1 k57 k58))), (4, .one (.e (.sl 2 k59 k60))), (5, .one (.e (.sl 3 0 x62.length))), (43, B (decide (((x92.length : Nat) : Int) = 0)))], [.row .u8 x1 false, .row .nod x55 true, .row .nod x56 true, .row .edt x62 true]⟩ (by kernel_rfl) ⟨trivial, trivial, trivial⟩ ?_
        refine bindO_e h (fun b97 hv98 h => ?_)
        refine WO_thru ⟨[(2, B b97)], [.row .u8 x1 false]⟩ ?_ ?_
        · refine iteO_e hv98 (fun hb99 hv98 => WO_known 43 true rfl hb99 ?_) (fun hb99 hv98 => WO_known 43 false rfl hb99 ?_)
          · refine WO_step 5 [0, 1, 2] [43, 46, 47, 48] (True ∧ (True ∧ True)) ⟨[(43, B true), (46, B (decide (((x62.length : Nat) : Int) = 0))), (47, .one (.e (.sl 1 k57 k58))), (48, .one (.e (.sl 2 k59 k60)))], [.row .u8 x1 false, .row .nod x55 true, .row .nod x56 true]⟩ (by kernel_rfl) ⟨trivial, trivial, trivial⟩ ?_
            refine bindO_e hv98 (fun b100 hc101 hv98 => ?_)
            refine WO_call [.view 0, .view 1] Try.f28 rfl rfl rfl (by kernel_rfl) Try.func28 rfl (by kernel_rfl) (impl_SameTree_ok n ((x55.drop k57).take k58) ((x56.drop k59).take k60) b100 hc101) (trivial) rfl ?_
            refine WO_step 3 [0] [2] (True ∧ True) ⟨[(2, B ((decide (((x62.length : Nat) : Int) = 0)) == b100))], [.row .u8 x1 false]⟩ (by kernel_rfl) ⟨trivial, trivial⟩ ?_
            cases hv98
            exact WO_nil rfl ⟨rfl, rfl⟩
          · refine WO_step 9 [0] [2] True ⟨[(2, B false)], [.row .u8 x1 false]⟩ (by kernel_rfl) trivial ?_
            cases hv98
            exact WO_nil rfl ⟨rfl, rfl⟩
        · refine thenS_n ?_
          refine W_ret ?_
          cases h
          exact ⟨[0], True, by kernel_rfl, trivial⟩

end Go.Proofs.Ythlfcfcfipahiaa

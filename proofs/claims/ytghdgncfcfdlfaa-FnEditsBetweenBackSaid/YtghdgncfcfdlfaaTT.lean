import Derived.Test.YtghdgncfcfdlfaaTT2
namespace Go.Proofs.Ytghdgncfcfdlfaa
open Go Go.Shelf Go.Proofs
set_option linter.unusedVariables false
/- stringslite.Cut -/
def stringslite_Cut (s1 : Str) (s2 : Str) : Option (Str × Str × Bool) :=
 bindO (stringslite_Index s1 s2) fun i14 =>
 iteO (decide (0 ≤ i14))
 (guardO (0 ≤ i14 ∧ i14 ≤ ((s1.length : Nat) : Int)) <|
 guardO (0 ≤ (w64 (i14 + ((s2.length : Nat) : Int))) ∧ (w64 (i14 + ((s2.length : Nat) : Int))) ≤ ((s1.length : Nat) : Int)) <|
 some ((s1.take i14.toNat), (s1.drop ((w64 (i14 + ((s2.length : Nat) : Int))).toNat)), true))
 (some (s1, [], false))

theorem stringslite_Cut_ok (s1 : Str) (s2 : Str) (s11 : Str) (s12 : Str) (b13 : Bool) (h : stringslite_Cut s1 s2 = some (s11, s12, b13)) : FOk EE 69 [S s1, S s2] [] (.tup [.e (cS s11), .e (cS s12), .e (cB b13)]) [] := by
  unfold stringslite_Cut at h
  refine FOk_of_W 23 0 Try.func69 rfl rfl (Nat.le_of_ble_eq_true rfl) rfl (fun w X θ => ?_)
  refine W_seq ?_
  refine W_region ?_
  refine WO_step 3 [] [0, 1] True ⟨[(0, S s1), (1, S s2)], []⟩ (by kernel_rfl) trivial ?_
  refine WO_nil rfl ?_
  refine thenS_n ?_
  refine W_seq ?_
  refine W_seq ?_
  refine W_region ?_
  refine WO_step 2 [] [0, 1, 8, 9] True ⟨[(0, S s1), (1, S s2), (8, S s1), (9, S s2)], []⟩ (by kernel_rfl) trivial ?_
  refine bindO_e h (fun i14 hc15 h => ?_)
  refine WO_call [] Try.f81 rfl rfl rfl (by kernel_rfl) Try.func81 rfl (by kernel_rfl) (stringslite_Index_ok s1 s2 i14 hc15) (trivial) rfl ?_
  refine WO_step 1 [] [0, 1, 7] True ⟨[(0, S s1), (1, S s2), (7, I i14)], []⟩ (by kernel_rfl) trivial ?_
  refine WO_nil rfl ?_
  refine thenS_n ?_
  refine W_seq ?_
  refine W_region ?_
  refine WO_step 2 [] [0, 1, 7, 12] (True ∧ True) ⟨[(0, S s1), (1, S s2), (7, I i14), (12, B (decide (0 ≤ i14)))], []⟩ (by kernel_rfl) ⟨trivial, trivial⟩ ?_
  refine WO_nil rfl ?_
  refine thenS_n ?_
  refine iteO_e h (fun hb19 h => W_true rfl hb19 ?_) (fun hb19 h => W_false rfl hb19 ?_)
  · refine W_seq ?_
    refine guardO_e h (fun hg20 h => ?_)
    refine guardO_e h (fun hg21 h => ?_)
    refine W_cut (Q' := fun (e : Exit) (s : St) => e = .normal ∧ s = ⟨[(4, S (s1.take i14.toNat)), (5, S (s1.drop ((w64 (i14 + ((s2.length : Nat) : Int))).toNat))), (6, B true)], []⟩) ?_ ?_
    · refine W_draw [] true (by kernel_rfl) (by kernel_rfl) ?_
      refine WD_takeK [0, 1, 2, 3, 4, 5, 6, 7, 8, 9, 10, 11] [4, 5, 6] [4, 5, 6] (φ := ((0 ≤ i14 ∧ i14 ≤ ((s1.length : Nat) : Int)) ∧ (0 ≤ i14 ∧ i14 ≤ ((s1.length : Nat) : Int)) ∧ (True ∧ True ∧ (True ∧ True ∧ ((0 ≤ (w64 (i14 + ((s2.length : Nat) : Int))) ∧ (w64 (i14 + ((s2.length : Nat) : Int))) ≤ ((s1.length : Nat) : Int)) ∧ (0 ≤ (w64 (i14 + ((s2.length : Nat) : Int))) ∧ (w64 (i14 + ((s2.length : Nat) : Int))) ≤ ((s1.length : Nat) : Int)) ∧ True))))) (ls' := #[true, true, true, true, true, true, true, true, true, true, true, true]) (Ts' := [(4, S (s1.take i14.toNat)), (5, S (s1.drop ((w64 (i14 + ((s2.length : Nat) : Int))).toNat))), (6, B true)]) (st' := ⟨[(4, S (s1.take i14.toNat)), (5, S (s1.drop ((w64 (i14 + ((s2.length : Nat) : Int))).toNat))), (6, B true)], []⟩) (n2 := 0) (by kernel_rfl) ⟨hg20, hg20, trivial, trivial, trivial, trivial, hg21, hg21, trivial⟩ rfl ?_
      exact WD_done [] [4, 5, 6] (st' := ⟨[(4, S (s1.take i14.toNat)), (5, S (s1.drop ((w64 (i14 + ((s2.length : Nat) : Int))).toNat))), (6, B true)], []⟩) (by kernel_rfl) (by kernel_rfl) (And.intro rfl rfl)
    · rintro _ _ ⟨rfl, rfl⟩
      refine thenS_n ?_
      refine W_ret ?_
      refine thenS_r ?_
      cases h
      exact ⟨[], True, by kernel_rfl, trivial⟩
  · refine W_sub [] [0] (st' := ⟨[(0, S s1)], []⟩) (by kernel_rfl) ?_
    refine W_skip ?_
    refine thenS_n ?_
    refine W_seq ?_
    refine W_region ?_
    refine WO_step 4 [] [4, 5, 6] True ⟨[(4, S s1), (5, S []), (6, B false)], []⟩ (by kernel_rfl) trivial ?_
    refine WO_nil rfl ?_
    refine thenS_n ?_
    refine W_ret ?_
    cases h
    exact ⟨[], True, by kernel_rfl, trivial⟩

/- strings.Cut -/
def strings_Cut (s1 : Str) (s2 : Str) : Option (Str × Str × Bool) :=
 bindO (stringslite_Cut s1 s2) fun (s11, s12, b13) =>
 some (s11, s12, b13)

theorem strings_Cut_ok (s1 : Str) (s2 : Str) (s8 : Str) (s9 : Str) (b10 : Bool) (h : strings_Cut s1 s2 = some (s8, s9, b10)) : FOk EE 53 [S s1, S s2] [] (.tup [.e (cS s8), .e (cS s9), .e (cB b10)]) [] := by
  unfold strings_Cut at h
  refine FOk_of_W 13 0 Try.func53 rfl rfl (Nat.le_of_ble_eq_true rfl) rfl (fun w X θ => ?_)
  refine W_seq ?_
  refine W_region ?_
  refine WO_step 3 [] [0, 1] True ⟨[(0, S s1), (1, S s2)], []⟩ (by kernel_rfl) trivial ?_
  refine WO_nil rfl ?_
  refine thenS_n ?_
  refine W_seq ?_
  refine W_region ?_
  refine WO_step 2 [] [7, 8] True ⟨[(7, S s1), (8, S s2)], []⟩ (by kernel_rfl) trivial ?_
  refine bindO_e h (fun v15 hc14 h => ?_)
  obtain ⟨s11, s12, b13⟩ := v15
  refine WO_call [] Try.f69 rfl rfl rfl (by kernel_rfl) Try.func69 rfl (by kernel_rfl) (stringslite_Cut_ok s1 s2 s11 s12 b13 hc14) (trivial) rfl ?_
  refine WO_step 6 [] [4, 5, 6] True ⟨[(4, S s11), (5, S s12), (6, B b13)], []⟩ (by kernel_rfl) trivial ?_
  refine WO_nil rfl ?_
  refine thenS_n ?_
  refine W_ret ?_
  cases h
  exact ⟨[], True, by kernel_rfl, trivial⟩

/- impl.ResolvePath -/
def impl_ResolvePath_L1 (x1 : List Nod) : Nat → Str → Int → Bool → Option ((Unit) ⊕ (Int))
| 0, _, _, _ => none
| n + 1, s129, i130, b131 =>
 iteO b131
 (bindO (strings_Cut s129 [47]) fun (s168, s169, b170) =>
 bindO (impl_kidIn n x1 i130 s168) fun i172 =>
 iteO (decide (i172 < 0))
 (some (.inl ()))
 (impl_ResolvePath_L1 x1 n s169 i172 b170))
 (some (.inr i130))

theorem impl_ResolvePath_L1_ok (w : World) (X : Nat → Prop) (θ : List Loc) (x1 : List Nod) (v : (Unit) ⊕ (Int)) : ∀ (n : Nat) (s129 : Str) (i130 : Int) (b131 : Bool), impl_ResolvePath_L1 x1 n s129 i130 b131 = some v → WL EE ⟨w, X, θ, 36, 1⟩ (subC [1, 1, 1, 1, 1, 1, 0, 1, 4, 4] (bodyC Try.f29)) (fun (e : Exit) (s : St) => (match v with | (.inl _) => e = .ret ∧ s = ⟨[(4, I (-1))], [.row .nod x1 false]⟩ | (.inr i155) => e = .exit 0 ∧ s = ⟨[(7, I i155)], [.row .nod x1 false]⟩ : Prop)) ⟨[(0, .one (.e (.sl 0 0 x1.length))), (5, S s129), (7, I i130), (8, B b131)], [.row .nod x1 false]⟩ := by
  intro n
  induction n with
  | zero => intro _ _ _ h; exact none_e h
  | succ n ih =>
    intro s129 i130 b131 h
    rw [impl_ResolvePath_L1] at h
    refine WL_round ?_
    refine W_seq ?_
    refine W_seq ?_
    refine W_region ?_
    refine WO_step 1 [0] [0, 5, 7, 22] True ⟨[(0, .one (.e (.sl 0 0 x1.length))), (5, S s129), (7, I i130), (22, B b131)], [.row .nod x1 false]⟩ (by kernel_rfl) trivial ?_
    refine WO_nil rfl ?_
    refine thenS_n ?_
    refine iteO_e h (fun hb158 h => W_true rfl hb158 ?_) (fun hb158 h => W_false rfl hb158 ?_)
    · refine W_sub [0] [0, 5, 7] (st' := ⟨[(0, .one (.e (.sl 0 0 x1.length))), (5, S s129), (7, I i130)], [.row .nod x1 false]⟩) (by kernel_rfl) ?_
      refine W_skip ?_
      refine thenS_n ?_
      refine W_block ?_
      refine W_seq ?_
      refine W_region ?_
      refine WO_step 1 [0] [0, 5, 7] True ⟨[(0, .one (.e (.sl 0 0 x1.length))), (5, S s129), (7, I i130)], [.row .nod x1 false]⟩ (by kernel_rfl) trivial ?_
      refine WO_nil rfl ?_
      refine thenS_n ?_
      refine W_seq ?_
      refine W_region ?_
      refine WO_step 1 [0] [0, 7, 24] True ⟨[(0, .one (.e (.sl 0 0 x1.length))), (7, I i130), (24, S s129)], [.row .nod x1 false]⟩ (by kernel_rfl) trivial ?_
      refine bindO_e h (fun v176 hc171 h => ?_)
      obtain ⟨s168, s169, b170⟩ := v176
      refine WO_call [] Try.f53 rfl rfl rfl (by kernel_rfl) Try.func53 rfl (by kernel_rfl) (strings_Cut_ok s129 [47] s168 s169 b170 hc171) (trivial) rfl ?_
      refine WO_step 7 [0] [0, 5, 7, 8, 9] True ⟨[(0, .one (.e (.sl 0 0 x1.length))), (5, S s169), (7, I i130), (8, B b170), (9, S s168)], [.row .nod x1 false]⟩ (by kernel_rfl) trivial ?_
      refine WO_nil rfl ?_
      refine thenS_n ?_
      refine W_seq ?_
      refine W_region ?_
      refine WO_step 3 [0] [0, 5, 8, 29, 30, 31] True ⟨[(0, .one (.e (.sl 0 0 x1.length))), (5, S s169), (8, B b170), (29, .one (.e (.sl 0 0 x1.length))), (30, I i130), (31, S s168)], [.row .nod x1 false]⟩ (by kernel_rfl) trivial ?_
      refine bindO_e h (fun i172 hc173 h => ?_)
      refine WO_call [.ro 0] Try.f39 rfl rfl rfl (by kernel_rfl) Try.func39 rfl (by kernel_rfl) (impl_kidIn_ok n x1 i130 s168 i172 hc173) (And.intro (And.intro rfl rfl) (trivial)) rfl ?_
      refine WO_step 1 [0] [0, 5, 7, 8] True ⟨[(0, .one (.e (.sl 0 0 x1.length))), (5, S s169), (7, I i172), (8, B b170)], [.row .nod x1 false]⟩ (by kernel_rfl) trivial ?_
      refine WO_nil rfl ?_
      refine thenS_n ?_
      refine W_seq ?_
      refine W_region ?_
      refine WO_step 2 [0] [0, 5, 7, 8, 34] (True ∧ True) ⟨[(0, .one (.e (.sl 0 0 x1.length))), (5, S s169), (7, I i172), (8, B b170), (34, B (decide (i172 < 0)))], [.row .nod x1 false]⟩ (by kernel_rfl) ⟨trivial, trivial⟩ ?_
      refine WO_nil rfl ?_
      refine thenS_n ?_
      refine iteO_e h (fun hb175 h => W_true rfl hb175 ?_) (fun hb175 h => W_false rfl hb175 ?_)
      · refine W_seq ?_
        refine W_region ?_
        refine WO_step 1 [0] [4] True ⟨[(4, I (-1))], [.row .nod x1 false]⟩ (by kernel_rfl) trivial ?_
        refine WO_nil rfl ?_
        refine thenS_n ?_
        refine W_ret ?_
        refine blockS_r ?_
        refine thenS_r ?_
        cases h
        exact And.intro rfl rfl
      · refine W_sub [0] [0, 5, 7, 8] (st' := ⟨[(0, .one (.e (.sl 0 0 x1.length))), (5, S s169), (7, I i172), (8, B b170)], [.row .nod x1 false]⟩) (by kernel_rfl) ?_
        refine W_skip ?_
        refine blockS_n ?_
        refine thenS_n ?_
        exact ih _ _ _ h
    · refine W_sub [0] [7] (st' := ⟨[(7, I i130)], [.row .nod x1 false]⟩) (by kernel_rfl) ?_
      refine W_exit ?_
      refine thenS_e ?_
      refine thenS_e ?_
      cases h
      exact And.intro rfl rfl

def impl_ResolvePath (n : Nat) (x1 : List Nod) (s2 : Str) : Option (Int) :=
 bindO (impl_ValidTree n x1) fun b90 =>
 iteO (!b90)
 (some (-1))
 (bindO (strings_CutPrefix s2 [47]) fun (s94, b95) =>
 iteO (!b95)
 (some (-1))
 (iteO (decide (s94 = []))
 (some 0)
 (bindO (impl_ResolvePath_L1 x1 n s94 0 true) fun v177 =>
 match v177 with
 | (.inl _) => (some (-1))
 | (.inr i155) => (some i155)
)))

theorem impl_ResolvePath_ok (n : Nat) (x1 : List Nod) (s2 : Str) (i89 : Int) (h : impl_ResolvePath n x1 s2 = some i89) : FOk EE 29 [.one (.e (.sl 0 0 x1.length)), S s2] [.row .nod x1 false] (I i89) [.row .nod x1 false] := by
  unfold impl_ResolvePath at h
  refine FOk_of_W 36 1 Try.func29 rfl rfl (Nat.le_of_ble_eq_true rfl) rfl (fun w X θ => ?_)
  refine W_seq ?_
  refine W_region ?_
  refine WO_step 1 [0] [0, 1] True ⟨[(0, .one (.e (.sl 0 0 x1.length))), (1, S s2)], [.row .nod x1 false]⟩ (by kernel_rfl) trivial ?_
  refine WO_nil rfl ?_
  refine thenS_n ?_
  refine W_seq ?_
  refine W_seq ?_
  refine W_region ?_
  refine WO_step 1 [0] [0, 1, 10] True ⟨[(0, .one (.e (.sl 0 0 x1.length))), (1, S s2), (10, .one (.e (.sl 0 0 x1.length)))], [.row .nod x1 false]⟩ (by kernel_rfl) trivial ?_
  refine bindO_e h (fun b90 hc91 h => ?_)
  refine WO_call [.ro 0] Try.f17 rfl rfl rfl (by kernel_rfl) Try.func17 rfl (by kernel_rfl) (impl_ValidTree_ok n x1 b90 hc91) (And.intro (And.intro rfl rfl) (trivial)) rfl ?_
  refine WO_step 1 [0] [0, 1, 12] True ⟨[(0, .one (.e (.sl 0 0 x1.length))), (1, S s2), (12, B (!b90))], [.row .nod x1 false]⟩ (by kernel_rfl) trivial ?_
  refine WO_nil rfl ?_
  refine thenS_n ?_
  refine iteO_e h (fun hb93 h => W_true rfl hb93 ?_) (fun hb93 h => W_false rfl hb93 ?_)
  · refine W_seq ?_
    refine W_region ?_
    refine WO_step 1 [0] [4] True ⟨[(4, I (-1))], [.row .nod x1 false]⟩ (by kernel_rfl) trivial ?_
    refine WO_nil rfl ?_
    refine thenS_n ?_
    refine W_ret ?_
    refine thenS_r ?_
    cases h
    exact ⟨[0], True, by kernel_rfl, trivial⟩
  · refine W_sub [0] [0, 1] (st' := ⟨[(0, .one (.e (.sl 0 0 x1.length))), (1, S s2)], [.row .nod x1 false]⟩) (by kernel_rfl) ?_
    refine W_skip ?_
    refine thenS_n ?_
    refine W_seq ?_
    refine W_region ?_
    refine WO_step 1 [0] [0, 14] True ⟨[(0, .one (.e (.sl 0 0 x1.length))), (14, S s2)], [.row .nod x1 false]⟩ (by kernel_rfl) trivial ?_
    refine bindO_e h (fun v178 hc96 h => ?_)
    obtain ⟨s94, b95⟩ := v178
    refine WO_call [] Try.f52 rfl rfl rfl (by kernel_rfl) Try.func52 rfl (by kernel_rfl) (strings_CutPrefix_ok s2 [47] s94 b95 hc96) (trivial) rfl ?_
    refine WO_step 5 [0] [0, 5, 6] True ⟨[(0, .one (.e (.sl 0 0 x1.length))), (5, S s94), (6, B b95)], [.row .nod x1 false]⟩ (by kernel_rfl) trivial ?_
    refine WO_nil rfl ?_
    refine thenS_n ?_
    refine W_seq ?_
    refine W_seq ?_
    refine W_region ?_
    refine WO_step 2 [0] [0, 5, 19] True ⟨[(0, .one (.e (.sl 0 0 x1.length))), (5, S s94), (19, B (!b95))], [.row .nod x1 false]⟩ (by kernel_rfl) trivial ?_
    refine WO_nil rfl ?_
    refine thenS_n ?_
    refine iteO_e h (fun hb98 h => W_true rfl hb98 ?_) (fun hb98 h => W_false rfl hb98 ?_)
    · refine W_seq ?_
      refine W_region ?_
      refine WO_step 1 [0] [4] True ⟨[(4, I (-1))], [.row .nod x1 false]⟩ (by kernel_rfl) trivial ?_
      refine WO_nil rfl ?_
      refine thenS_n ?_
      refine W_ret ?_
      refine thenS_r ?_
      cases h
      exact ⟨[0], True, by kernel_rfl, trivial⟩
    · refine W_sub [0] [0, 5] (st' := ⟨[(0, .one (.e (.sl 0 0 x1.length))), (5, S s94)], [.row .nod x1 false]⟩) (by kernel_rfl) ?_
      refine W_skip ?_
      refine thenS_n ?_
      refine W_seq ?_
      refine W_seq ?_
      refine W_region ?_
      refine WO_step 2 [0] [0, 5, 21] (True ∧ True) ⟨[(0, .one (.e (.sl 0 0 x1.length))), (5, S s94), (21, B (decide (s94 = [])))], [.row .nod x1 false]⟩ (by kernel_rfl) ⟨trivial, trivial⟩ ?_
      refine WO_nil rfl ?_
      refine thenS_n ?_
      refine iteO_e h (fun hb100 h => W_true rfl hb100 ?_) (fun hb100 h => W_false rfl hb100 ?_)
      · refine W_seq ?_
        refine W_region ?_
        refine WO_step 1 [0] [4] True ⟨[(4, I 0)], [.row .nod x1 false]⟩ (by kernel_rfl) trivial ?_
        refine WO_nil rfl ?_
        refine thenS_n ?_
        refine W_ret ?_
        refine thenS_r ?_
        cases h
        exact ⟨[0], True, by kernel_rfl, trivial⟩
      · refine W_sub [0] [0, 5] (st' := ⟨[(0, .one (.e (.sl 0 0 x1.length))), (5, S s94)], [.row .nod x1 false]⟩) (by kernel_rfl) ?_
        refine W_skip ?_
        refine thenS_n ?_
        refine W_seq ?_
        refine W_region ?_
        refine WO_step 1 [0] [0, 5, 7] True ⟨[(0, .one (.e (.sl 0 0 x1.length))), (5, S s94), (7, I 0)], [.row .nod x1 false]⟩ (by kernel_rfl) trivial ?_
        refine WO_nil rfl ?_
        refine thenS_n ?_
        refine W_seq ?_
        refine W_seq ?_
        refine W_region ?_
        refine WO_step 1 [0] [0, 5, 7, 8] True ⟨[(0, .one (.e (.sl 0 0 x1.length))), (5, S s94), (7, I 0), (8, B true)], [.row .nod x1 false]⟩ (by kernel_rfl) trivial ?_
        refine WO_nil rfl ?_
        refine thenS_n ?_
        refine W_block ?_
        refine W_loop ?_
        refine bindO_e h (fun v177 hv177 h => ?_)
        refine WL_cut (impl_ResolvePath_L1_ok w X θ x1 v177 n s94 0 true hv177) ?_
        rcases v177 with _ | i155
        · rintro _ _ ⟨rfl, rfl⟩
          refine blockS_r ?_
          refine thenS_r ?_
          cases h
          exact ⟨[0], True, by kernel_rfl, trivial⟩
        · rintro _ _ ⟨rfl, rfl⟩
          refine blockS_y ?_
          refine thenS_n ?_
          refine W_seq ?_
          refine W_region ?_
          refine WO_step 2 [0] [4] True ⟨[(4, I i155)], [.row .nod x1 false]⟩ (by kernel_rfl) trivial ?_
          refine WO_nil rfl ?_
          refine thenS_n ?_
          refine W_ret ?_
          cases h
          exact ⟨[0], True, by kernel_rfl, trivial⟩

/- impl.EditsBetween -/
def impl_EditsBetween_L1 (x1 : List Nod) (x2 : List Nod) (x296 : List Int) : Nat → (List Edt) → Int → Option ((List Edt))
| 0, _, _ => none
| n + 1, x352, i353 =>
 iteO (decide (i353 < ((x296.length : Nat) : Int)))
 (guardO (0 ≤ i353 ∧ i353 < ((x296.length : Nat) : Int)) <|
 bindO (impl_PathText n x1 (x296.getD i353.toNat 0)) fun s432 =>
 bindO (impl_ResolvePath n x2 s432) fun i434 =>
 bindO (iteO (decide (i434 < 0))
 (guardO (0 ≤ (x296.getD i353.toNat 0) ∧ (x296.getD i353.toNat 0) < ((x1.length : Nat) : Int)) <|
 bindO (impl_PathText n x1 ((x1.getD ((x296.getD i353.toNat 0).toNat) dnod).parent)) fun s446 =>
 bindO (impl_ResolvePath n x2 s446) fun i448 =>
 some (decide (0 ≤ i448)))
 (some false)) fun b442 =>
 bindO (iteO b442
 (guardO (0 = 0 ∧ x352.length = x352.length ∧ x352.length + (([(⟨1, s432, 0⟩ : Edt)].drop 0).take ([(⟨1, s432, 0⟩ : Edt)].length)).length ≤ 1099511627776) <|
 some (x352 ++ (([(⟨1, s432, 0⟩ : Edt)].drop 0).take ([(⟨1, s432, 0⟩ : Edt)].length))))
 (some x352)) fun x452 =>
 impl_EditsBetween_L1 x1 x2 x296 n x452 (w64 (i353 + 1)))
 (some x352)

theorem impl_EditsBetween_L1_ok (w : World) (X : Nat → Prop) (θ : List Loc) (x1 : List Nod) (x2 : List Nod) (x296 : List Int) (x404 : (List Edt)) : ∀ (n : Nat) (x352 : List Edt) (i353 : Int), impl_EditsBetween_L1 x1 x2 x296 n x352 i353 = some x404 → WL EE ⟨w, X, θ, 93, 2⟩ (subC [1, 1, 1, 0, 1, 4, 4] (bodyC Try.f9)) (fun (e : Exit) (s : St) => e = .exit 0 ∧ s = ⟨[(0, .one (.e (.sl 0 0 x1.length))), (1, .one (.e (.sl 1 0 x2.length))), (5, .one (.e (.sl 2 0 x404.length)))], [.row .nod x1 false, .row .nod x2 false, .row .edt x404 true]⟩) ⟨[(0, .one (.e (.sl 0 0 x1.length))), (1, .one (.e (.sl 1 0 x2.length))), (5, .one (.e (.sl 2 0 x352.length))), (22, .one (.e (.sl 3 0 x296.length))), (23, I ((x296.length : Nat) : Int)), (24, I i353)], [.row .nod x1 false, .row .nod x2 false, .row .edt x352 true, .row .int x296 true]⟩ := by
  intro n
  induction n with
  | zero => intro _ _ h; exact none_e h
  | succ n ih =>
    intro x352 i353 h
    rw [impl_EditsBetween_L1] at h
    refine WL_round ?_
    refine W_seq ?_
    refine W_region ?_
    refine WO_step 1 [0, 1, 2, 3] [0, 1, 5, 22, 23, 24, 25] (True ∧ True) ⟨[(0, .one (.e (.sl 0 0 x1.length))), (1, .one (.e (.sl 1 0 x2.length))), (5, .one (.e (.sl 2 0 x352.length))), (22, .one (.e (.sl 3 0 x296.length))), (23, I ((x296.length : Nat) : Int)), (24, I i353), (25, B (decide (i353 < ((x296.length : Nat) : Int))))], [.row .nod x1 false, .row .nod x2 false, .row .edt x352 true, .row .int x296 true]⟩ (by kernel_rfl) ⟨trivial, trivial⟩ ?_
    refine WO_nil rfl ?_
    refine thenS_n ?_
    refine W_seq ?_
    refine iteO_e h (fun hb407 h => W_true rfl hb407 ?_) (fun hb407 h => W_false rfl hb407 ?_)
    · refine W_sub [0, 1, 2, 3] [0, 1, 5, 22, 23, 24] (st' := ⟨[(0, .one (.e (.sl 0 0 x1.length))), (1, .one (.e (.sl 1 0 x2.length))), (5, .one (.e (.sl 2 0 x352.length))), (22, .one (.e (.sl 3 0 x296.length))), (23, I ((x296.length : Nat) : Int)), (24, I i353)], [.row .nod x1 false, .row .nod x2 false, .row .edt x352 true, .row .int x296 true]⟩) (by kernel_rfl) ?_
      refine W_skip ?_
      refine thenS_n ?_
      refine W_seq ?_
      refine W_block ?_
      refine W_seq ?_
      refine W_region ?_
      refine guardO_e h (fun hg431 h => ?_)
      refine WO_step 3 [0, 1, 2, 3] [0, 1, 5, 7, 22, 23, 24] ((0 ≤ i353 ∧ i353 < ((x296.length : Nat) : Int)) ∧ (True ∧ True)) ⟨[(0, .one (.e (.sl 0 0 x1.length))), (1, .one (.e (.sl 1 0 x2.length))), (5, .one (.e (.sl 2 0 x352.length))), (7, I (x296.getD i353.toNat 0)), (22, .one (.e (.sl 3 0 x296.length))), (23, I ((x296.length : Nat) : Int)), (24, I i353)], [.row .nod x1 false, .row .nod x2 false, .row .edt x352 true, .row .int x296 true]⟩ (by kernel_rfl) ⟨hg431, trivial, trivial⟩ ?_
      refine WO_nil rfl ?_
      refine thenS_n ?_
      refine W_seq ?_
      refine W_region ?_
      refine WO_step 2 [0, 1, 2, 3] [0, 1, 5, 7, 22, 23, 24, 28, 29] True ⟨[(0, .one (.e (.sl 0 0 x1.length))), (1, .one (.e (.sl 1 0 x2.length))), (5, .one (.e (.sl 2 0 x352.length))), (7, I (x296.getD i353.toNat 0)), (22, .one (.e (.sl 3 0 x296.length))), (23, I ((x296.length : Nat) : Int)), (24, I i353), (28, .one (.e (.sl 0 0 x1.length))), (29, I (x296.getD i353.toNat 0))], [.row .nod x1 false, .row .nod x2 false, .row .edt x352 true, .row .int x296 true]⟩ (by kernel_rfl) trivial ?_
      refine bindO_e h (fun s432 hc433 h => ?_)
      refine WO_call [.ro 0] Try.f28 rfl rfl rfl (by kernel_rfl) Try.func28 rfl (by kernel_rfl) (impl_PathText_ok n x1 (x296.getD i353.toNat 0) s432 hc433) (And.intro (And.intro rfl rfl) (trivial)) rfl ?_
      refine WO_step 1 [0, 1, 2, 3] [0, 1, 5, 7, 8, 22, 23, 24] True ⟨[(0, .one (.e (.sl 0 0 x1.length))), (1, .one (.e (.sl 1 0 x2.length))), (5, .one (.e (.sl 2 0 x352.length))), (7, I (x296.getD i353.toNat 0)), (8, S s432), (22, .one (.e (.sl 3 0 x296.length))), (23, I ((x296.length : Nat) : Int)), (24, I i353)], [.row .nod x1 false, .row .nod x2 false, .row .edt x352 true, .row .int x296 true]⟩ (by kernel_rfl) trivial ?_
      refine WO_nil rfl ?_
      refine thenS_n ?_
      refine W_seq ?_
      refine W_region ?_
      refine WO_step 2 [0, 1, 2, 3] [0, 1, 5, 7, 8, 22, 23, 24, 31, 32] True ⟨[(0, .one (.e (.sl 0 0 x1.length))), (1, .one (.e (.sl 1 0 x2.length))), (5, .one (.e (.sl 2 0 x352.length))), (7, I (x296.getD i353.toNat 0)), (8, S s432), (22, .one (.e (.sl 3 0 x296.length))), (23, I ((x296.length : Nat) : Int)), (24, I i353), (31, .one (.e (.sl 1 0 x2.length))), (32, S s432)], [.row .nod x1 false, .row .nod x2 false, .row .edt x352 true, .row .int x296 true]⟩ (by kernel_rfl) trivial ?_
      refine bindO_e h (fun i434 hc435 h => ?_)
      refine WO_call [.ro 1] Try.f29 rfl rfl rfl (by kernel_rfl) Try.func29 rfl (by kernel_rfl) (impl_ResolvePath_ok n x2 s432 i434 hc435) (And.intro (And.intro rfl rfl) (trivial)) rfl ?_
      refine WO_step 2 [0, 1, 2, 3] [0, 1, 5, 7, 8, 22, 23, 24, 35] (True ∧ True) ⟨[(0, .one (.e (.sl 0 0 x1.length))), (1, .one (.e (.sl 1 0 x2.length))), (5, .one (.e (.sl 2 0 x352.length))), (7, I (x296.getD i353.toNat 0)), (8, S s432), (22, .one (.e (.sl 3 0 x296.length))), (23, I ((x296.length : Nat) : Int)), (24, I i353), (35, B (decide (i434 < 0)))], [.row .nod x1 false, .row .nod x2 false, .row .edt x352 true, .row .int x296 true]⟩ (by kernel_rfl) ⟨trivial, trivial⟩ ?_
      refine bindO_e h (fun b442 hv443 h => ?_)
      refine WO_thru ⟨[(0, .one (.e (.sl 0 0 x1.length))), (1, .one (.e (.sl 1 0 x2.length))), (5, .one (.e (.sl 2 0 x352.length))), (8, S s432), (22, .one (.e (.sl 3 0 x296.length))), (23, I ((x296.length : Nat) : Int)), (24, I i353), (46, B b442)], [.row .nod x1 false, .row .nod x2 false, .row .edt x352 true, .row .int x296 true]⟩ ?_ ?_
      · refine iteO_e hv443 (fun hb444 hv443 => WO_known 35 true rfl hb444 ?_) (fun hb444 hv443 => WO_known 35 false rfl hb444 ?_)
        · refine guardO_e hv443 (fun hg445 hv443 => ?_)
          refine WO_step 7 [0, 1, 2, 3] [0, 1, 5, 8, 22, 23, 24, 35, 36, 37, 42] ((0 ≤ (x296.getD i353.toNat 0) ∧ (x296.getD i353.toNat 0) < ((x1.length : Nat) : Int)) ∧ (True ∧ True)) ⟨[(0, .one (.e (.sl 0 0 x1.length))), (1, .one (.e (.sl 1 0 x2.length))), (5, .one (.e (.sl 2 0 x352.length))), (8, S s432), (22, .one (.e (.sl 3 0 x296.length))), (23, I ((x296.length : Nat) : Int)), (24, I i353), (35, B true), (36, .one (.e (.sl 1 0 x2.length))), (37, .one (.e (.sl 0 0 x1.length))), (42, I ((x1.getD ((x296.getD i353.toNat 0).toNat) dnod).parent))], [.row .nod x1 false, .row .nod x2 false, .row .edt x352 true, .row .int x296 true]⟩ (by kernel_rfl) ⟨hg445, trivial, trivial⟩ ?_
          refine bindO_e hv443 (fun s446 hc447 hv443 => ?_)
          refine WO_call [.ro 0] Try.f28 rfl rfl rfl (by kernel_rfl) Try.func28 rfl (by kernel_rfl) (impl_PathText_ok n x1 ((x1.getD ((x296.getD i353.toNat 0).toNat) dnod).parent) s446 hc447) (And.intro (And.intro rfl rfl) (trivial)) rfl ?_
          refine WO_sub [0, 1, 2, 3] [0, 1, 5, 8, 22, 23, 24, 35, 36, 43] (st' := ⟨[(0, .one (.e (.sl 0 0 x1.length))), (1, .one (.e (.sl 1 0 x2.length))), (5, .one (.e (.sl 2 0 x352.length))), (8, S s432), (22, .one (.e (.sl 3 0 x296.length))), (23, I ((x296.length : Nat) : Int)), (24, I i353), (35, B true), (36, .one (.e (.sl 1 0 x2.length))), (43, S s446)], [.row .nod x1 false, .row .nod x2 false, .row .edt x352 true, .row .int x296 true]⟩) (by kernel_rfl) ?_
          refine bindO_e hv443 (fun i448 hc449 hv443 => ?_)
          refine WO_call [.ro 1] Try.f29 rfl rfl rfl (by kernel_rfl) Try.func29 rfl (by kernel_rfl) (impl_ResolvePath_ok n x2 s446 i448 hc449) (And.intro (And.intro rfl rfl) (trivial)) rfl ?_
          refine WO_step 2 [0, 1, 2, 3] [0, 1, 5, 8, 22, 23, 24, 46] (True ∧ True) ⟨[(0, .one (.e (.sl 0 0 x1.length))), (1, .one (.e (.sl 1 0 x2.length))), (5, .one (.e (.sl 2 0 x352.length))), (8, S s432), (22, .one (.e (.sl 3 0 x296.length))), (23, I ((x296.length : Nat) : Int)), (24, I i353), (46, B (decide (0 ≤ i448)))], [.row .nod x1 false, .row .nod x2 false, .row .edt x352 true, .row .int x296 true]⟩ (by kernel_rfl) ⟨trivial, trivial⟩ ?_
          cases hv443
          exact WO_nil rfl ⟨rfl, rfl⟩
        · refine WO_step 11 [0, 1, 2, 3] [0, 1, 5, 8, 22, 23, 24, 46] True ⟨[(0, .one (.e (.sl 0 0 x1.length))), (1, .one (.e (.sl 1 0 x2.length))), (5, .one (.e (.sl 2 0 x352.length))), (8, S s432), (22, .one (.e (.sl 3 0 x296.length))), (23, I ((x296.length : Nat) : Int)), (24, I i353), (46, B false)], [.row .nod x1 false, .row .nod x2 false, .row .edt x352 true, .row .int x296 true]⟩ (by kernel_rfl) trivial ?_
          cases hv443
          exact WO_nil rfl ⟨rfl, rfl⟩
      · refine thenS_n ?_
        refine bindO_e h (fun x452 hx452 h => ?_)
        refine W_cut (Q' := fun (e : Exit) (s : St) => e = .normal ∧ s = ⟨[(0, .one (.e (.sl 0 0 x1.length))), (1, .one (.e (.sl 1 0 x2.length))), (5, .one (.e (.sl 2 0 x452.length))), (22, .one (.e (.sl 3 0 x296.length))), (23, I ((x296.length : Nat) : Int)), (24, I i353)], [.row .nod x1 false, .row .nod x2 false, .row .edt x452 true, .row .int x296 true]⟩) ?_ ?_
        · refine iteO_e hx452 (fun hb454 hx452 => W_true rfl hb454 ?_) (fun hb454 hx452 => W_false rfl hb454 ?_)
          · refine W_region ?_
            refine guardO_e hx452 (fun hg455 hx452 => ?_)
            refine WO_step 6 [0, 1, 5, 3] [0, 1, 5, 22, 23, 24] ((0 = 0 ∧ x352.length = x352.length ∧ x352.length + (([(⟨1, s432, 0⟩ : Edt)].drop 0).take ([(⟨1, s432, 0⟩ : Edt)].length)).length ≤ 1099511627776) ∧ True) ⟨[(0, .one (.e (.sl 0 0 x1.length))), (1, .one (.e (.sl 1 0 x2.length))), (5, .one (.e (.sl 2 0 ((x352 ++ (([(⟨1, s432, 0⟩ : Edt)].drop 0).take ([(⟨1, s432, 0⟩ : Edt)].length))).length)))), (22, .one (.e (.sl 3 0 x296.length))), (23, I ((x296.length : Nat) : Int)), (24, I i353)], [.row .nod x1 false, .row .nod x2 false, .row .edt (x352 ++ (([(⟨1, s432, 0⟩ : Edt)].drop 0).take ([(⟨1, s432, 0⟩ : Edt)].length))) true, .row .int x296 true]⟩ (by kernel_rfl) ⟨hg455, trivial⟩ ?_
            refine WO_nil rfl ?_
            cases hx452
            exact And.intro rfl rfl
          · refine W_sub [0, 1, 2, 3] [0, 1, 5, 22, 23, 24] (st' := ⟨[(0, .one (.e (.sl 0 0 x1.length))), (1, .one (.e (.sl 1 0 x2.length))), (5, .one (.e (.sl 2 0 x352.length))), (22, .one (.e (.sl 3 0 x296.length))), (23, I ((x296.length : Nat) : Int)), (24, I i353)], [.row .nod x1 false, .row .nod x2 false, .row .edt x352 true, .row .int x296 true]⟩) (by kernel_rfl) ?_
            refine W_skip ?_
            cases hx452
            exact And.intro rfl rfl
        · rintro _ _ ⟨rfl, rfl⟩
          refine blockS_n ?_
          refine thenS_n ?_
          refine W_region ?_
          refine WO_step 2 [0, 1, 2, 3] [0, 1, 5, 22, 23, 24] (True ∧ True) ⟨[(0, .one (.e (.sl 0 0 x1.length))), (1, .one (.e (.sl 1 0 x2.length))), (5, .one (.e (.sl 2 0 x452.length))), (22, .one (.e (.sl 3 0 x296.length))), (23, I ((x296.length : Nat) : Int)), (24, I (w64 (i353 + 1)))], [.row .nod x1 false, .row .nod x2 false, .row .edt x452 true, .row .int x296 true]⟩ (by kernel_rfl) ⟨trivial, trivial⟩ ?_
          refine WO_nil rfl ?_
          refine thenS_n ?_
          exact ih _ _ h
    · refine W_sub [0, 1, 2] [0, 1, 5] (st' := ⟨[(0, .one (.e (.sl 0 0 x1.length))), (1, .one (.e (.sl 1 0 x2.length))), (5, .one (.e (.sl 2 0 x352.length)))], [.row .nod x1 false, .row .nod x2 false, .row .edt x352 true]⟩) (by kernel_rfl) ?_
      refine W_exit ?_
      refine thenS_e ?_
      refine thenS_e ?_
      cases h
      exact And.intro rfl rfl

def impl_EditsBetween_L2 (x1 : List Nod) (x2 : List Nod) (x457 : List Int) : Nat → (List Edt) → Int → Option ((List Edt))
| 0, _, _ => none
| n + 1, x497, i498 =>
 iteO (decide (i498 < ((x457.length : Nat) : Int)))
 (guardO (0 ≤ i498 ∧ i498 < ((x457.length : Nat) : Int)) <|
 bindO (impl_PathText n x2 (x457.getD i498.toNat 0)) fun s553 =>
 bindO (impl_ResolvePath n x1 s553) fun i555 =>
 bindO (iteO (decide (i555 < 0))
 (some true)
 (guardO (0 ≤ i555 ∧ i555 < ((x1.length : Nat) : Int)) <|
 guardO (0 ≤ (x457.getD i498.toNat 0) ∧ (x457.getD i498.toNat 0) < ((x2.length : Nat) : Int)) <|
 some (!decide (((x1.getD i555.toNat dnod).value) = ((x2.getD ((x457.getD i498.toNat 0).toNat) dnod).value))))) fun b560 =>
 bindO (iteO b560
 (guardO (0 ≤ (x457.getD i498.toNat 0) ∧ (x457.getD i498.toNat 0) < ((x2.length : Nat) : Int)) <|
 guardO (0 = 0 ∧ x497.length = x497.length ∧ x497.length + (([(⟨0, s553, (x2.getD ((x457.getD i498.toNat 0).toNat) dnod).value⟩ : Edt)].drop 0).take ([(⟨0, s553, (x2.getD ((x457.getD i498.toNat 0).toNat) dnod).value⟩ : Edt)].length)).length ≤ 1099511627776) <|
 some (x497 ++ (([(⟨0, s553, (x2.getD ((x457.getD i498.toNat 0).toNat) dnod).value⟩ : Edt)].drop 0).take ([(⟨0, s553, (x2.getD ((x457.getD i498.toNat 0).toNat) dnod).value⟩ : Edt)].length))))
 (some x497)) fun x565 =>
 impl_EditsBetween_L2 x1 x2 x457 n x565 (w64 (i498 + 1)))
 (some x497)

theorem impl_EditsBetween_L2_ok (w : World) (X : Nat → Prop) (θ : List Loc) (x1 : List Nod) (x2 : List Nod) (x457 : List Int) (x533 : (List Edt)) : ∀ (n : Nat) (x497 : List Edt) (i498 : Int), impl_EditsBetween_L2 x1 x2 x457 n x497 i498 = some x533 → WL EE ⟨w, X, θ, 93, 2⟩ (subC [1, 1, 1, 1, 0, 1, 4, 4] (bodyC Try.f9)) (fun (e : Exit) (s : St) => e = .exit 2 ∧ s = ⟨[(5, .one (.e (.sl 2 0 x533.length)))], [.row .nod x1 false, .row .nod x2 false, .row .edt x533 true]⟩) ⟨[(0, .one (.e (.sl 0 0 x1.length))), (1, .one (.e (.sl 1 0 x2.length))), (5, .one (.e (.sl 2 0 x497.length))), (54, .one (.e (.sl 3 0 x457.length))), (55, I ((x457.length : Nat) : Int)), (56, I i498)], [.row .nod x1 false, .row .nod x2 false, .row .edt x497 true, .row .int x457 true]⟩ := by
  intro n
  induction n with
  | zero => intro _ _ h; exact none_e h
  | succ n ih =>
    intro x497 i498 h
    rw [impl_EditsBetween_L2] at h
    refine WL_round ?_
    refine W_seq ?_
    refine W_region ?_
    refine WO_step 1 [0, 1, 2, 3] [0, 1, 5, 54, 55, 56, 57] (True ∧ True) ⟨[(0, .one (.e (.sl 0 0 x1.length))), (1, .one (.e (.sl 1 0 x2.length))), (5, .one (.e (.sl 2 0 x497.length))), (54, .one (.e (.sl 3 0 x457.length))), (55, I ((x457.length : Nat) : Int)), (56, I i498), (57, B (decide (i498 < ((x457.length : Nat) : Int))))], [.row .nod x1 false, .row .nod x2 false, .row .edt x497 true, .row .int x457 true]⟩ (by kernel_rfl) ⟨trivial, trivial⟩ ?_
    refine WO_nil rfl ?_
    refine thenS_n ?_
    refine W_seq ?_
    refine iteO_e h (fun hb536 h => W_true rfl hb536 ?_) (fun hb536 h => W_false rfl hb536 ?_)
    · refine W_sub [0, 1, 2, 3] [0, 1, 5, 54, 55, 56] (st' := ⟨[(0, .one (.e (.sl 0 0 x1.length))), (1, .one (.e (.sl 1 0 x2.length))), (5, .one (.e (.sl 2 0 x497.length))), (54, .one (.e (.sl 3 0 x457.length))), (55, I ((x457.length : Nat) : Int)), (56, I i498)], [.row .nod x1 false, .row .nod x2 false, .row .edt x497 true, .row .int x457 true]⟩) (by kernel_rfl) ?_
      refine W_skip ?_
      refine thenS_n ?_
      refine W_seq ?_
      refine W_block ?_
      refine W_seq ?_
      refine W_region ?_
      refine guardO_e h (fun hg552 h => ?_)
      refine WO_step 3 [0, 1, 2, 3] [0, 1, 5, 10, 54, 55, 56] ((0 ≤ i498 ∧ i498 < ((x457.length : Nat) : Int)) ∧ (True ∧ True)) ⟨[(0, .one (.e (.sl 0 0 x1.length))), (1, .one (.e (.sl 1 0 x2.length))), (5, .one (.e (.sl 2 0 x497.length))), (10, I (x457.getD i498.toNat 0)), (54, .one (.e (.sl 3 0 x457.length))), (55, I ((x457.length : Nat) : Int)), (56, I i498)], [.row .nod x1 false, .row .nod x2 false, .row .edt x497 true, .row .int x457 true]⟩ (by kernel_rfl) ⟨hg552, trivial, trivial⟩ ?_
      refine WO_nil rfl ?_
      refine thenS_n ?_
      refine W_seq ?_
      refine W_region ?_
      refine WO_step 2 [0, 1, 2, 3] [0, 1, 5, 10, 54, 55, 56, 60, 61] True ⟨[(0, .one (.e (.sl 0 0 x1.length))), (1, .one (.e (.sl 1 0 x2.length))), (5, .one (.e (.sl 2 0 x497.length))), (10, I (x457.getD i498.toNat 0)), (54, .one (.e (.sl 3 0 x457.length))), (55, I ((x457.length : Nat) : Int)), (56, I i498), (60, .one (.e (.sl 1 0 x2.length))), (61, I (x457.getD i498.toNat 0))], [.row .nod x1 false, .row .nod x2 false, .row .edt x497 true, .row .int x457 true]⟩ (by kernel_rfl) trivial ?_
      refine bindO_e h (fun s553 hc554 h => ?_)
      refine WO_call [.ro 1] Try.f28 rfl rfl rfl (by kernel_rfl) Try.func28 rfl (by kernel_rfl) (impl_PathText_ok n x2 (x457.getD i498.toNat 0) s553 hc554) (And.intro (And.intro rfl rfl) (trivial)) rfl ?_
      refine WO_step 1 [0, 1, 2, 3] [0, 1, 5, 10, 11, 54, 55, 56] True ⟨[(0, .one (.e (.sl 0 0 x1.length))), (1, .one (.e (.sl 1 0 x2.length))), (5, .one (.e (.sl 2 0 x497.length))), (10, I (x457.getD i498.toNat 0)), (11, S s553), (54, .one (.e (.sl 3 0 x457.length))), (55, I ((x457.length : Nat) : Int)), (56, I i498)], [.row .nod x1 false, .row .nod x2 false, .row .edt x497 true, .row .int x457 true]⟩ (by kernel_rfl) trivial ?_
      refine WO_nil rfl ?_
      refine thenS_n ?_
      refine W_seq ?_
      refine W_region ?_
      refine WO_step 2 [0, 1, 2, 3] [0, 1, 5, 10, 11, 54, 55, 56, 63, 64] True ⟨[(0, .one (.e (.sl 0 0 x1.length))), (1, .one (.e (.sl 1 0 x2.length))), (5, .one (.e (.sl 2 0 x497.length))), (10, I (x457.getD i498.toNat 0)), (11, S s553), (54, .one (.e (.sl 3 0 x457.length))), (55, I ((x457.length : Nat) : Int)), (56, I i498), (63, .one (.e (.sl 0 0 x1.length))), (64, S s553)], [.row .nod x1 false, .row .nod x2 false, .row .edt x497 true, .row .int x457 true]⟩ (by kernel_rfl) trivial ?_
      refine bindO_e h (fun i555 hc556 h => ?_)
      refine WO_call [.ro 0] Try.f29 rfl rfl rfl (by kernel_rfl) Try.func29 rfl (by kernel_rfl) (impl_ResolvePath_ok n x1 s553 i555 hc556) (And.intro (And.intro rfl rfl) (trivial)) rfl ?_
      refine WO_step 1 [0, 1, 2, 3] [0, 1, 5, 10, 11, 12, 54, 55, 56] True ⟨[(0, .one (.e (.sl 0 0 x1.length))), (1, .one (.e (.sl 1 0 x2.length))), (5, .one (.e (.sl 2 0 x497.length))), (10, I (x457.getD i498.toNat 0)), (11, S s553), (12, I i555), (54, .one (.e (.sl 3 0 x457.length))), (55, I ((x457.length : Nat) : Int)), (56, I i498)], [.row .nod x1 false, .row .nod x2 false, .row .edt x497 true, .row .int x457 true]⟩ (by kernel_rfl) trivial ?_
      refine WO_nil rfl ?_
      refine thenS_n ?_
      refine W_seq ?_
      refine bindO_e h (fun b560 hv561 h => ?_)
      refine W_cut (Q' := fun (e : Exit) (s : St) => e = .normal ∧ s = ⟨[(0, .one (.e (.sl 0 0 x1.length))), (1, .one (.e (.sl 1 0 x2.length))), (5, .one (.e (.sl 2 0 x497.length))), (10, I (x457.getD i498.toNat 0)), (11, S s553), (54, .one (.e (.sl 3 0 x457.length))), (55, I ((x457.length : Nat) : Int)), (56, I i498), (80, B b560)], [.row .nod x1 false, .row .nod x2 false, .row .edt x497 true, .row .int x457 true]⟩) ?_ ?_
      · refine iteO_e hv561 (fun hb557 hv561 => ?_) (fun hb557 hv561 => ?_)
        · refine W_draw [] true (by kernel_rfl) (by kernel_rfl) ?_
          refine WD_takeK [0, 1, 2] [0, 1, 5, 10, 11, 12, 54, 55, 56, 68] [0, 1, 5, 10, 11, 12, 54, 55, 56, 68] (φ := (True ∧ True ∧ True)) (ls' := #[true, true, true, false, false, false, false, false, false, false, false, false, false, false, false]) (Ts' := [(0, .one (.e (.sl 0 0 x1.length))), (1, .one (.e (.sl 1 0 x2.length))), (5, .one (.e (.sl 2 0 x497.length))), (10, I (x457.getD i498.toNat 0)), (11, S s553), (12, I i555), (54, .one (.e (.sl 3 0 x457.length))), (55, I ((x457.length : Nat) : Int)), (56, I i498), (68, B (decide (i555 < 0)))]) (st' := ⟨[(0, .one (.e (.sl 0 0 x1.length))), (1, .one (.e (.sl 1 0 x2.length))), (5, .one (.e (.sl 2 0 x497.length))), (10, I (x457.getD i498.toNat 0)), (11, S s553), (12, I i555), (54, .one (.e (.sl 3 0 x457.length))), (55, I ((x457.length : Nat) : Int)), (56, I i498), (68, B (decide (i555 < 0)))], [.row .nod x1 false, .row .nod x2 false, .row .edt x497 true, .row .int x457 true]⟩) (n2 := 12) (by kernel_rfl) ⟨trivial, trivial, trivial⟩ rfl ?_
          refine WD_known 68 true rfl rfl hb557 ?_
          refine WD_takeK [3, 4, 5, 6, 7, 8, 9, 10, 11, 12, 13, 14] [0, 1, 5, 10, 11, 54, 55, 56, 80] [0, 1, 5, 10, 11, 54, 55, 56, 80] (φ := True) (ls' := #[true, true, true, true, true, true, true, true, true, true, true, true, true, true, true]) (Ts' := [(0, .one (.e (.sl 0 0 x1.length))), (1, .one (.e (.sl 1 0 x2.length))), (5, .one (.e (.sl 2 0 x497.length))), (10, I (x457.getD i498.toNat 0)), (11, S s553), (54, .one (.e (.sl 3 0 x457.length))), (55, I ((x457.length : Nat) : Int)), (56, I i498), (80, B true)]) (st' := ⟨[(0, .one (.e (.sl 0 0 x1.length))), (1, .one (.e (.sl 1 0 x2.length))), (5, .one (.e (.sl 2 0 x497.length))), (10, I (x457.getD i498.toNat 0)), (11, S s553), (54, .one (.e (.sl 3 0 x457.length))), (55, I ((x457.length : Nat) : Int)), (56, I i498), (80, B true)], [.row .nod x1 false, .row .nod x2 false, .row .edt x497 true, .row .int x457 true]⟩) (n2 := 0) (by kernel_rfl) trivial rfl ?_
          exact WD_done [0, 1, 2, 3] [0, 1, 5, 10, 11, 54, 55, 56, 80] (st' := ⟨[(0, .one (.e (.sl 0 0 x1.length))), (1, .one (.e (.sl 1 0 x2.length))), (5, .one (.e (.sl 2 0 x497.length))), (10, I (x457.getD i498.toNat 0)), (11, S s553), (54, .one (.e (.sl 3 0 x457.length))), (55, I ((x457.length : Nat) : Int)), (56, I i498), (80, B true)], [.row .nod x1 false, .row .nod x2 false, .row .edt x497 true, .row .int x457 true]⟩) (by kernel_rfl) (by kernel_rfl) (And.intro rfl (by cases hv561; rfl))
        · refine guardO_e hv561 (fun hg558 hv561 => ?_)
          refine guardO_e hv561 (fun hg559 hv561 => ?_)
          refine W_draw [] true (by kernel_rfl) (by kernel_rfl) ?_
          refine WD_takeK [0, 1, 2] [0, 1, 5, 10, 11, 12, 54, 55, 56, 68] [0, 1, 5, 10, 11, 12, 54, 55, 56, 68] (φ := (True ∧ True ∧ True)) (ls' := #[true, true, true, false, false, false, false, false, false, false, false, false, false, false, false]) (Ts' := [(0, .one (.e (.sl 0 0 x1.length))), (1, .one (.e (.sl 1 0 x2.length))), (5, .one (.e (.sl 2 0 x497.length))), (10, I (x457.getD i498.toNat 0)), (11, S s553), (12, I i555), (54, .one (.e (.sl 3 0 x457.length))), (55, I ((x457.length : Nat) : Int)), (56, I i498), (68, B (decide (i555 < 0)))]) (st' := ⟨[(0, .one (.e (.sl 0 0 x1.length))), (1, .one (.e (.sl 1 0 x2.length))), (5, .one (.e (.sl 2 0 x497.length))), (10, I (x457.getD i498.toNat 0)), (11, S s553), (12, I i555), (54, .one (.e (.sl 3 0 x457.length))), (55, I ((x457.length : Nat) : Int)), (56, I i498), (68, B (decide (i555 < 0)))], [.row .nod x1 false, .row .nod x2 false, .row .edt x497 true, .row .int x457 true]⟩) (n2 := 12) (by kernel_rfl) ⟨trivial, trivial, trivial⟩ rfl ?_
          refine WD_known 68 false rfl rfl hb557 ?_
          refine WD_takeK [3, 4, 5, 6, 7, 8, 9, 10, 11, 12, 13, 14] [0, 1, 5, 10, 11, 54, 55, 56, 80] [0, 1, 5, 10, 11, 54, 55, 56, 80] (φ := ((0 ≤ i555 ∧ i555 < ((x1.length : Nat) : Int)) ∧ (0 ≤ i555 ∧ i555 < ((x1.length : Nat) : Int)) ∧ (True ∧ True ∧ ((0 ≤ (x457.getD i498.toNat 0) ∧ (x457.getD i498.toNat 0) < ((x2.length : Nat) : Int)) ∧ (0 ≤ (x457.getD i498.toNat 0) ∧ (x457.getD i498.toNat 0) < ((x2.length : Nat) : Int)) ∧ (True ∧ True ∧ (True ∧ True ∧ True)))))) (ls' := #[true, true, true, true, true, true, true, true, true, true, true, true, true, true, true]) (Ts' := [(0, .one (.e (.sl 0 0 x1.length))), (1, .one (.e (.sl 1 0 x2.length))), (5, .one (.e (.sl 2 0 x497.length))), (10, I (x457.getD i498.toNat 0)), (11, S s553), (54, .one (.e (.sl 3 0 x457.length))), (55, I ((x457.length : Nat) : Int)), (56, I i498), (80, B (!decide (((x1.getD i555.toNat dnod).value) = ((x2.getD ((x457.getD i498.toNat 0).toNat) dnod).value))))]) (st' := ⟨[(0, .one (.e (.sl 0 0 x1.length))), (1, .one (.e (.sl 1 0 x2.length))), (5, .one (.e (.sl 2 0 x497.length))), (10, I (x457.getD i498.toNat 0)), (11, S s553), (54, .one (.e (.sl 3 0 x457.length))), (55, I ((x457.length : Nat) : Int)), (56, I i498), (80, B (!decide (((x1.getD i555.toNat dnod).value) = ((x2.getD ((x457.getD i498.toNat 0).toNat) dnod).value))))], [.row .nod x1 false, .row .nod x2 false, .row .edt x497 true, .row .int x457 true]⟩) (n2 := 0) (by kernel_rfl) ⟨hg558, hg558, trivial, trivial, hg559, hg559, trivial, trivial, trivial, trivial, trivial⟩ rfl ?_
          exact WD_done [0, 1, 2, 3] [0, 1, 5, 10, 11, 54, 55, 56, 80] (st' := ⟨[(0, .one (.e (.sl 0 0 x1.length))), (1, .one (.e (.sl 1 0 x2.length))), (5, .one (.e (.sl 2 0 x497.length))), (10, I (x457.getD i498.toNat 0)), (11, S s553), (54, .one (.e (.sl 3 0 x457.length))), (55, I ((x457.length : Nat) : Int)), (56, I i498), (80, B (!decide (((x1.getD i555.toNat dnod).value) = ((x2.getD ((x457.getD i498.toNat 0).toNat) dnod).value))))], [.row .nod x1 false, .row .nod x2 false, .row .edt x497 true, .row .int x457 true]⟩) (by kernel_rfl) (by kernel_rfl) (And.intro rfl (by cases hv561; rfl))
      · rintro _ _ ⟨rfl, rfl⟩
        refine thenS_n ?_
        refine bindO_e h (fun x565 hx565 h => ?_)
        refine W_cut (Q' := fun (e : Exit) (s : St) => e = .normal ∧ s = ⟨[(0, .one (.e (.sl 0 0 x1.length))), (1, .one (.e (.sl 1 0 x2.length))), (5, .one (.e (.sl 2 0 x565.length))), (54, .one (.e (.sl 3 0 x457.length))), (55, I ((x457.length : Nat) : Int)), (56, I i498)], [.row .nod x1 false, .row .nod x2 false, .row .edt x565 true, .row .int x457 true]⟩) ?_ ?_
        · refine iteO_e hx565 (fun hb567 hx565 => W_true rfl hb567 ?_) (fun hb567 hx565 => W_false rfl hb567 ?_)
          · refine W_region ?_
            refine guardO_e hx565 (fun hg568 hx565 => ?_)
            refine guardO_e hx565 (fun hg569 hx565 => ?_)
            refine WO_step 11 [0, 1, 5, 3] [0, 1, 5, 54, 55, 56] ((0 ≤ (x457.getD i498.toNat 0) ∧ (x457.getD i498.toNat 0) < ((x2.length : Nat) : Int)) ∧ (True ∧ ((0 = 0 ∧ x497.length = x497.length ∧ x497.length + (([(⟨0, s553, (x2.getD ((x457.getD i498.toNat 0).toNat) dnod).value⟩ : Edt)].drop 0).take ([(⟨0, s553, (x2.getD ((x457.getD i498.toNat 0).toNat) dnod).value⟩ : Edt)].length)).length ≤ 1099511627776) ∧ True))) ⟨[(0, .one (.e (.sl 0 0 x1.length))), (1, .one (.e (.sl 1 0 x2.length))), (5, .one (.e (.sl 2 0 ((x497 ++ (([(⟨0, s553, (x2.getD ((x457.getD i498.toNat 0).toNat) dnod).value⟩ : Edt)].drop 0).take ([(⟨0, s553, (x2.getD ((x457.getD i498.toNat 0).toNat) dnod).value⟩ : Edt)].length))).length)))), (54, .one (.e (.sl 3 0 x457.length))), (55, I ((x457.length : Nat) : Int)), (56, I i498)], [.row .nod x1 false, .row .nod x2 false, .row .edt (x497 ++ (([(⟨0, s553, (x2.getD ((x457.getD i498.toNat 0).toNat) dnod).value⟩ : Edt)].drop 0).take ([(⟨0, s553, (x2.getD ((x457.getD i498.toNat 0).toNat) dnod).value⟩ : Edt)].length))) true, .row .int x457 true]⟩ (by kernel_rfl) ⟨hg568, trivial, hg569, trivial⟩ ?_
            refine WO_nil rfl ?_
            cases hx565
            exact And.intro rfl rfl
          · refine W_sub [0, 1, 2, 3] [0, 1, 5, 54, 55, 56] (st' := ⟨[(0, .one (.e (.sl 0 0 x1.length))), (1, .one (.e (.sl 1 0 x2.length))), (5, .one (.e (.sl 2 0 x497.length))), (54, .one (.e (.sl 3 0 x457.length))), (55, I ((x457.length : Nat) : Int)), (56, I i498)], [.row .nod x1 false, .row .nod x2 false, .row .edt x497 true, .row .int x457 true]⟩) (by kernel_rfl) ?_
            refine W_skip ?_
            cases hx565
            exact And.intro rfl rfl
        · rintro _ _ ⟨rfl, rfl⟩
          refine blockS_n ?_
          refine thenS_n ?_
          refine W_region ?_
          refine WO_step 2 [0, 1, 2, 3] [0, 1, 5, 54, 55, 56] (True ∧ True) ⟨[(0, .one (.e (.sl 0 0 x1.length))), (1, .one (.e (.sl 1 0 x2.length))), (5, .one (.e (.sl 2 0 x565.length))), (54, .one (.e (.sl 3 0 x457.length))), (55, I ((x457.length : Nat) : Int)), (56, I (w64 (i498 + 1)))], [.row .nod x1 false, .row .nod x2 false, .row .edt x565 true, .row .int x457 true]⟩ (by kernel_rfl) ⟨trivial, trivial⟩ ?_
          refine WO_nil rfl ?_
          refine thenS_n ?_
          exact ih _ _ h
    · refine W_sub [0, 1, 2] [5] (st' := ⟨[(5, .one (.e (.sl 2 0 x497.length)))], [.row .nod x1 false, .row .nod x2 false, .row .edt x497 true]⟩) (by kernel_rfl) ?_
      refine W_exit ?_
      refine thenS_e ?_
      refine thenS_e ?_
      cases h
      exact And.intro rfl rfl

def impl_EditsBetween (n : Nat) (x1 : List Nod) (x2 : List Nod) : Option ((List Edt)) :=
 bindO (impl_ValidTree n x1) fun b284 =>
 bindO (iteO (!b284)
 (some true)
 (bindO (impl_ValidTree n x2) fun b292 =>
 some (!b292))) fun b289 =>
 iteO b289
 (some ([] : List Edt))
 (bindO (impl_WalkNodes n x1 0) fun x296 =>
 bindO (impl_EditsBetween_L1 x1 x2 x296 n ([] : List Edt) 0) fun x404 =>
 bindO (impl_WalkNodes n x2 0) fun x457 =>
 bindO (impl_EditsBetween_L2 x1 x2 x457 n x404 0) fun x533 =>
 some x533)

theorem impl_EditsBetween_ok (n : Nat) (x1 : List Nod) (x2 : List Nod) (x283 : List Edt) (h : impl_EditsBetween n x1 x2 = some x283) : FOk EE 9 [.one (.e (.sl 0 0 x1.length)), .one (.e (.sl 1 0 x2.length))] [.row .nod x1 false, .row .nod x2 false] (.one (.e (.sl 2 0 x283.length))) [.row .nod x1 false, .row .nod x2 false, .row .edt x283 true] := by
  unfold impl_EditsBetween at h
  refine FOk_of_W 93 2 Try.func9 rfl rfl (Nat.le_of_ble_eq_true rfl) rfl (fun w X θ => ?_)
  refine W_seq ?_
  refine W_region ?_
  refine WO_step 1 [0, 1] [0, 1] True ⟨[(0, .one (.e (.sl 0 0 x1.length))), (1, .one (.e (.sl 1 0 x2.length)))], [.row .nod x1 false, .row .nod x2 false]⟩ (by kernel_rfl) trivial ?_
  refine WO_nil rfl ?_
  refine thenS_n ?_
  refine W_seq ?_
  refine W_seq ?_
  refine W_region ?_
  refine WO_step 1 [0, 1] [0, 1, 13] True ⟨[(0, .one (.e (.sl 0 0 x1.length))), (1, .one (.e (.sl 1 0 x2.length))), (13, .one (.e (.sl 0 0 x1.length)))], [.row .nod x1 false, .row .nod x2 false]⟩ (by kernel_rfl) trivial ?_
  refine bindO_e h (fun b284 hc285 h => ?_)
  refine WO_call [.ro 0] Try.f17 rfl rfl rfl (by kernel_rfl) Try.func17 rfl (by kernel_rfl) (impl_ValidTree_ok n x1 b284 hc285) (And.intro (And.intro rfl rfl) (trivial)) rfl ?_
  refine WO_step 2 [0, 1] [0, 1, 16] True ⟨[(0, .one (.e (.sl 0 0 x1.length))), (1, .one (.e (.sl 1 0 x2.length))), (16, B (!b284))], [.row .nod x1 false, .row .nod x2 false]⟩ (by kernel_rfl) trivial ?_
  refine bindO_e h (fun b289 hv290 h => ?_)
  refine WO_thru ⟨[(0, .one (.e (.sl 0 0 x1.length))), (1, .one (.e (.sl 1 0 x2.length))), (20, B b289)], [.row .nod x1 false, .row .nod x2 false]⟩ ?_ ?_
  · refine iteO_e hv290 (fun hb291 hv290 => WO_known 16 true rfl hb291 ?_) (fun hb291 hv290 => WO_known 16 false rfl hb291 ?_)
    · refine WO_step 4 [0, 1] [0, 1, 20] True ⟨[(0, .one (.e (.sl 0 0 x1.length))), (1, .one (.e (.sl 1 0 x2.length))), (20, B true)], [.row .nod x1 false, .row .nod x2 false]⟩ (by kernel_rfl) trivial ?_
      cases hv290
      exact WO_nil rfl ⟨rfl, rfl⟩
    · refine WO_step 1 [0, 1] [0, 1, 16, 17] True ⟨[(0, .one (.e (.sl 0 0 x1.length))), (1, .one (.e (.sl 1 0 x2.length))), (16, B false), (17, .one (.e (.sl 1 0 x2.length)))], [.row .nod x1 false, .row .nod x2 false]⟩ (by kernel_rfl) trivial ?_
      refine bindO_e hv290 (fun b292 hc293 hv290 => ?_)
      refine WO_call [.ro 1] Try.f17 rfl rfl rfl (by kernel_rfl) Try.func17 rfl (by kernel_rfl) (impl_ValidTree_ok n x2 b292 hc293) (And.intro (And.intro rfl rfl) (trivial)) rfl ?_
      refine WO_step 2 [0, 1] [0, 1, 20] True ⟨[(0, .one (.e (.sl 0 0 x1.length))), (1, .one (.e (.sl 1 0 x2.length))), (20, B (!b292))], [.row .nod x1 false, .row .nod x2 false]⟩ (by kernel_rfl) trivial ?_
      cases hv290
      exact WO_nil rfl ⟨rfl, rfl⟩
  · refine thenS_n ?_
    refine iteO_e h (fun hb295 h => W_true rfl hb295 ?_) (fun hb295 h => W_false rfl hb295 ?_)
    · refine W_seq ?_
      refine W_region ?_
      refine WO_step 1 [0, 1] [4] True ⟨[(4, .one (.e (.nsl)))], [.row .nod x1 false, .row .nod x2 false]⟩ (by kernel_rfl) trivial ?_
      refine WO_nilrow 4 .edt rfl ?_
      refine WO_sub [0, 1, 2] [4] (st' := ⟨[(4, .one (.e (.sl 2 0 (([] : List Edt).length))))], [.row .nod x1 false, .row .nod x2 false, .row .edt ([] : List Edt) true]⟩) (by kernel_rfl) ?_
      refine WO_nil rfl ?_
      refine thenS_n ?_
      refine W_ret ?_
      refine thenS_r ?_
      cases h
      exact ⟨[0, 1, 2], True, by kernel_rfl, trivial⟩
    · refine W_sub [0, 1] [0, 1] (st' := ⟨[(0, .one (.e (.sl 0 0 x1.length))), (1, .one (.e (.sl 1 0 x2.length)))], [.row .nod x1 false, .row .nod x2 false]⟩) (by kernel_rfl) ?_
      refine W_skip ?_
      refine thenS_n ?_
      refine W_seq ?_
      refine W_region ?_
      refine WO_step 1 [0, 1] [0, 1, 5] True ⟨[(0, .one (.e (.sl 0 0 x1.length))), (1, .one (.e (.sl 1 0 x2.length))), (5, .one (.e (.nsl)))], [.row .nod x1 false, .row .nod x2 false]⟩ (by kernel_rfl) trivial ?_
      refine WO_nilrow 5 .edt rfl ?_
      refine WO_sub [0, 1, 2] [0, 1, 5] (st' := ⟨[(0, .one (.e (.sl 0 0 x1.length))), (1, .one (.e (.sl 1 0 x2.length))), (5, .one (.e (.sl 2 0 (([] : List Edt).length))))], [.row .nod x1 false, .row .nod x2 false, .row .edt ([] : List Edt) true]⟩) (by kernel_rfl) ?_
      refine WO_nil rfl ?_
      refine thenS_n ?_
      refine W_seq ?_
      refine W_seq ?_
      refine W_region ?_
      refine WO_step 1 [0, 1, 2] [0, 1, 5, 21] True ⟨[(0, .one (.e (.sl 0 0 x1.length))), (1, .one (.e (.sl 1 0 x2.length))), (5, .one (.e (.sl 2 0 (([] : List Edt).length)))), (21, .one (.e (.sl 0 0 x1.length)))], [.row .nod x1 false, .row .nod x2 false, .row .edt ([] : List Edt) true]⟩ (by kernel_rfl) trivial ?_
      refine bindO_e h (fun x296 hc297 h => ?_)
      refine WO_call [.ro 0] Try.f27 rfl rfl rfl (by kernel_rfl) Try.func27 rfl (by kernel_rfl) (impl_WalkNodes_ok n x1 0 x296 hc297) (And.intro (And.intro rfl rfl) (trivial)) rfl ?_
      refine WO_step 2 [0, 1, 2, 3] [0, 1, 5, 22, 23, 24] (True ∧ True) ⟨[(0, .one (.e (.sl 0 0 x1.length))), (1, .one (.e (.sl 1 0 x2.length))), (5, .one (.e (.sl 2 0 (([] : List Edt).length)))), (22, .one (.e (.sl 3 0 x296.length))), (23, I ((x296.length : Nat) : Int)), (24, I 0)], [.row .nod x1 false, .row .nod x2 false, .row .edt ([] : List Edt) true, .row .int x296 true]⟩ (by kernel_rfl) ⟨trivial, trivial⟩ ?_
      refine WO_nil rfl ?_
      refine thenS_n ?_
      refine W_block ?_
      refine W_loop ?_
      refine bindO_e h (fun x404 hx404 h => ?_)
      refine WL_cut (impl_EditsBetween_L1_ok w X θ x1 x2 x296 x404 n ([] : List Edt) 0 hx404) ?_
      rintro _ _ ⟨rfl, rfl⟩
      refine blockS_y ?_
      refine thenS_n ?_
      refine W_seq ?_
      refine W_seq ?_
      refine W_region ?_
      refine WO_step 1 [0, 1, 2] [0, 1, 5, 53] True ⟨[(0, .one (.e (.sl 0 0 x1.length))), (1, .one (.e (.sl 1 0 x2.length))), (5, .one (.e (.sl 2 0 x404.length))), (53, .one (.e (.sl 1 0 x2.length)))], [.row .nod x1 false, .row .nod x2 false, .row .edt x404 true]⟩ (by kernel_rfl) trivial ?_
      refine bindO_e h (fun x457 hc458 h => ?_)
      refine WO_call [.ro 1] Try.f27 rfl rfl rfl (by kernel_rfl) Try.func27 rfl (by kernel_rfl) (impl_WalkNodes_ok n x2 0 x457 hc458) (And.intro (And.intro rfl rfl) (trivial)) rfl ?_
      refine WO_step 2 [0, 1, 2, 3] [0, 1, 5, 54, 55, 56] (True ∧ True) ⟨[(0, .one (.e (.sl 0 0 x1.length))), (1, .one (.e (.sl 1 0 x2.length))), (5, .one (.e (.sl 2 0 x404.length))), (54, .one (.e (.sl 3 0 x457.length))), (55, I ((x457.length : Nat) : Int)), (56, I 0)], [.row .nod x1 false, .row .nod x2 false, .row .edt x404 true, .row .int x457 true]⟩ (by kernel_rfl) ⟨trivial, trivial⟩ ?_
      refine WO_nil rfl ?_
      refine thenS_n ?_
      refine W_block ?_
      refine W_loop ?_
      refine bindO_e h (fun x533 hx533 h => ?_)
      refine WL_cut (impl_EditsBetween_L2_ok w X θ x1 x2 x457 x533 n x404 0 hx533) ?_
      rintro _ _ ⟨rfl, rfl⟩
      refine blockS_y ?_
      refine thenS_n ?_
      refine W_seq ?_
      refine W_region ?_
      refine WO_step 2 [0, 1, 2] [4] True ⟨[(4, .one (.e (.sl 2 0 x533.length)))], [.row .nod x1 false, .row .nod x2 false, .row .edt x533 true]⟩ (by kernel_rfl) trivial ?_
      refine WO_nil rfl ?_
      refine thenS_n ?_
      refine W_ret ?_
      cases h
      exact ⟨[0, 1, 2], True, by kernel_rfl, trivial⟩

/- spec.kids -/
def spec_kids_L1 (x1 : List Nod) (i2 : Int) : Nat → (List Int) → Int → Option ((List Int))
| 0, _, _ => none
| n + 1, x68, i69 =>
 iteO (decide (i69 < ((x1.length : Nat) : Int)))
 (guardO (0 ≤ i69 ∧ i69 < ((x1.length : Nat) : Int)) <|
 bindO (iteO (decide (((x1.getD i69.toNat dnod).parent) = i2))
 (guardO (0 = 0 ∧ x68.length = x68.length ∧ x68.length + (([i69].drop 0).take ([i69].length)).length ≤ 1099511627776) <|
 some (x68 ++ (([i69].drop 0).take ([i69].length))))
 (some x68)) fun x96 =>
 spec_kids_L1 x1 i2 n x96 (w64 (i69 + 1)))
 (some x68)

theorem spec_kids_L1_ok (w : World) (X : Nat → Prop) (θ : List Loc) (x1 : List Nod) (i2 : Int) (x84 : (List Int)) : ∀ (n : Nat) (x68 : List Int) (i69 : Int), spec_kids_L1 x1 i2 n x68 i69 = some x84 → WL EE ⟨w, X, θ, 26, 1⟩ (subC [1, 1, 0, 1, 4, 4] (bodyC Try.f44)) (fun (e : Exit) (s : St) => e = .exit 0 ∧ s = ⟨[(5, .one (.e (.sl 1 0 x84.length)))], [.row .nod x1 false, .row .int x84 true]⟩) ⟨[(0, .one (.e (.sl 0 0 x1.length))), (1, I i2), (5, .one (.e (.sl 1 0 x68.length))), (6, I i69)], [.row .nod x1 false, .row .int x68 true]⟩ := by
  intro n
  induction n with
  | zero => intro _ _ h; exact none_e h
  | succ n ih =>
    intro x68 i69 h
    rw [spec_kids_L1] at h
    refine WL_round ?_
    refine W_seq ?_
    refine W_seq ?_
    refine W_region ?_
    refine WO_step 4 [0, 1] [0, 1, 5, 6, 11] (True ∧ (True ∧ True)) ⟨[(0, .one (.e (.sl 0 0 x1.length))), (1, I i2), (5, .one (.e (.sl 1 0 x68.length))), (6, I i69), (11, B (decide (i69 < ((x1.length : Nat) : Int))))], [.row .nod x1 false, .row .int x68 true]⟩ (by kernel_rfl) ⟨trivial, trivial, trivial⟩ ?_
    refine WO_nil rfl ?_
    refine thenS_n ?_
    refine iteO_e h (fun hb87 h => W_true rfl hb87 ?_) (fun hb87 h => W_false rfl hb87 ?_)
    · refine W_sub [0, 1] [0, 1, 5, 6] (st' := ⟨[(0, .one (.e (.sl 0 0 x1.length))), (1, I i2), (5, .one (.e (.sl 1 0 x68.length))), (6, I i69)], [.row .nod x1 false, .row .int x68 true]⟩) (by kernel_rfl) ?_
      refine W_skip ?_
      refine thenS_n ?_
      refine W_seq ?_
      refine W_block ?_
      refine W_seq ?_
      refine W_region ?_
      refine guardO_e h (fun hg93 h => ?_)
      refine WO_step 7 [0, 1] [0, 1, 5, 6, 20] ((0 ≤ i69 ∧ i69 < ((x1.length : Nat) : Int)) ∧ (True ∧ (True ∧ True))) ⟨[(0, .one (.e (.sl 0 0 x1.length))), (1, I i2), (5, .one (.e (.sl 1 0 x68.length))), (6, I i69), (20, B (decide (((x1.getD i69.toNat dnod).parent) = i2)))], [.row .nod x1 false, .row .int x68 true]⟩ (by kernel_rfl) ⟨hg93, trivial, trivial, trivial⟩ ?_
      refine WO_nil rfl ?_
      refine thenS_n ?_
      refine bindO_e h (fun x96 hx96 h => ?_)
      refine W_cut (Q' := fun (e : Exit) (s : St) => e = .normal ∧ s = ⟨[(0, .one (.e (.sl 0 0 x1.length))), (1, I i2), (5, .one (.e (.sl 1 0 x96.length))), (6, I i69)], [.row .nod x1 false, .row .int x96 true]⟩) ?_ ?_
      · refine iteO_e hx96 (fun hb98 hx96 => W_true rfl hb98 ?_) (fun hb98 hx96 => W_false rfl hb98 ?_)
        · refine W_region ?_
          refine guardO_e hx96 (fun hg99 hx96 => ?_)
          refine WO_step 5 [0, 3] [0, 1, 5, 6] ((0 = 0 ∧ x68.length = x68.length ∧ x68.length + (([i69].drop 0).take ([i69].length)).length ≤ 1099511627776) ∧ True) ⟨[(0, .one (.e (.sl 0 0 x1.length))), (1, I i2), (5, .one (.e (.sl 1 0 ((x68 ++ (([i69].drop 0).take ([i69].length))).length)))), (6, I i69)], [.row .nod x1 false, .row .int (x68 ++ (([i69].drop 0).take ([i69].length))) true]⟩ (by kernel_rfl) ⟨hg99, trivial⟩ ?_
          refine WO_nil rfl ?_
          cases hx96
          exact And.intro rfl rfl
        · refine W_sub [0, 1] [0, 1, 5, 6] (st' := ⟨[(0, .one (.e (.sl 0 0 x1.length))), (1, I i2), (5, .one (.e (.sl 1 0 x68.length))), (6, I i69)], [.row .nod x1 false, .row .int x68 true]⟩) (by kernel_rfl) ?_
          refine W_skip ?_
          cases hx96
          exact And.intro rfl rfl
      · rintro _ _ ⟨rfl, rfl⟩
        refine blockS_n ?_
        refine thenS_n ?_
        refine W_region ?_
        refine WO_step 3 [0, 1] [0, 1, 5, 6] (True ∧ True) ⟨[(0, .one (.e (.sl 0 0 x1.length))), (1, I i2), (5, .one (.e (.sl 1 0 x96.length))), (6, I (w64 (i69 + 1)))], [.row .nod x1 false, .row .int x96 true]⟩ (by kernel_rfl) ⟨trivial, trivial⟩ ?_
        refine WO_nil rfl ?_
        refine thenS_n ?_
        exact ih _ _ h
    · refine W_sub [0, 1] [5] (st' := ⟨[(5, .one (.e (.sl 1 0 x68.length)))], [.row .nod x1 false, .row .int x68 true]⟩) (by kernel_rfl) ?_
      refine W_exit ?_
      refine thenS_e ?_
      refine thenS_e ?_
      cases h
      exact And.intro rfl rfl

def spec_kids (n : Nat) (x1 : List Nod) (i2 : Int) : Option ((List Int)) :=
 bindO (spec_kids_L1 x1 i2 n ([] : List Int) 1) fun x84 =>
 some x84

theorem spec_kids_ok (n : Nat) (x1 : List Nod) (i2 : Int) (x49 : List Int) (h : spec_kids n x1 i2 = some x49) : FOk EE 44 [.one (.e (.sl 0 0 x1.length)), I i2] [.row .nod x1 false] (.one (.e (.sl 1 0 x49.length))) [.row .nod x1 false, .row .int x49 true] := by
  unfold spec_kids at h
  refine FOk_of_W 26 1 Try.func44 rfl rfl (Nat.le_of_ble_eq_true rfl) rfl (fun w X θ => ?_)
  refine W_seq ?_
  refine W_region ?_
  refine WO_step 1 [0] [0, 1] True ⟨[(0, .one (.e (.sl 0 0 x1.length))), (1, I i2)], [.row .nod x1 false]⟩ (by kernel_rfl) trivial ?_
  refine WO_nil rfl ?_
  refine thenS_n ?_
  refine W_seq ?_
  refine W_region ?_
  refine WO_step 2 [0, 1] [0, 1, 5] True ⟨[(0, .one (.e (.sl 0 0 x1.length))), (1, I i2), (5, .one (.e (.sl 1 0 (([] : List Int).length))))], [.row .nod x1 false, .row .int ([] : List Int) true]⟩ (by kernel_rfl) trivial ?_
  refine WO_nil rfl ?_
  refine thenS_n ?_
  refine W_seq ?_
  refine W_seq ?_
  refine W_region ?_
  refine WO_step 1 [0, 1] [0, 1, 5, 6] True ⟨[(0, .one (.e (.sl 0 0 x1.length))), (1, I i2), (5, .one (.e (.sl 1 0 (([] : List Int).length)))), (6, I 1)], [.row .nod x1 false, .row .int ([] : List Int) true]⟩ (by kernel_rfl) trivial ?_
  refine WO_nil rfl ?_
  refine thenS_n ?_
  refine W_block ?_
  refine W_loop ?_
  refine bindO_e h (fun x84 hx84 h => ?_)
  refine WL_cut (spec_kids_L1_ok w X θ x1 i2 x84 n ([] : List Int) 1 hx84) ?_
  rintro _ _ ⟨rfl, rfl⟩
  refine blockS_y ?_
  refine thenS_n ?_
  refine W_seq ?_
  refine W_region ?_
  refine WO_step 2 [0, 1] [4] True ⟨[(4, .one (.e (.sl 1 0 x84.length)))], [.row .nod x1 false, .row .int x84 true]⟩ (by kernel_rfl) trivial ?_
  refine WO_nil rfl ?_
  refine thenS_n ?_
  refine W_ret ?_
  cases h
  exact ⟨[0, 1], True, by kernel_rfl, trivial⟩

/- spec.walk -/
def spec_walk_L2 (rec : (List Nod) → Int → Option ((List Int))) (x1 : List Nod) (i2 : Int) (i463 : Int) : Nat → (List Int) → Int → Option ((List Int))
| 0, _, _ => none
| n + 1, x633, i634 =>
 bindO (iteO (decide (0 < i634))
 (guardO (0 ≤ i634 ∧ i634 < ((x633.length : Nat) : Int)) <|
 guardO (0 ≤ (x633.getD i634.toNat 0) ∧ (x633.getD i634.toNat 0) < ((x1.length : Nat) : Int)) <|
 guardO (0 ≤ (w64 (i634 - 1)) ∧ (w64 (i634 - 1)) < ((x633.length : Nat) : Int)) <|
 guardO (0 ≤ (x633.getD ((w64 (i634 - 1)).toNat) 0) ∧ (x633.getD ((w64 (i634 - 1)).toNat) 0) < ((x1.length : Nat) : Int)) <|
 some (Op.bytesLess ((x1.getD ((x633.getD i634.toNat 0).toNat) dnod).name) ((x1.getD ((x633.getD ((w64 (i634 - 1)).toNat) 0).toNat) dnod).name)))
 (some false)) fun b661 =>
 iteO b661
 (guardO (0 ≤ i634 ∧ i634 < ((x633.length : Nat) : Int)) <|
 guardO (0 ≤ (w64 (i634 - 1)) ∧ (w64 (i634 - 1)) < ((x633.length : Nat) : Int)) <|
 guardO (0 ≤ i634 ∧ i634 < ((x633.length : Nat) : Int)) <|
 guardO (0 ≤ (w64 (i634 - 1)) ∧ (w64 (i634 - 1)) < (((x633.set i634.toNat (x633.getD ((w64 (i634 - 1)).toNat) 0)).length : Nat) : Int)) <|
 spec_walk_L2 rec x1 i2 i463 n ((x633.set i634.toNat (x633.getD ((w64 (i634 - 1)).toNat) 0)).set ((w64 (i634 - 1)).toNat) (x633.getD i634.toNat 0)) (w64 (i634 - 1)))
 (some x633)

theorem spec_walk_L2_ok (rec : (List Nod) → Int → Option ((List Int))) (hrec : ∀ (x1 : List Nod) (i2 : Int) (x3 : List Int), rec x1 i2 = some x3 → FOk EE 22 [.one (.e (.sl 0 0 x1.length)), I i2] [.row .nod x1 false] (.one (.e (.sl 1 0 x3.length))) [.row .nod x1 false, .row .int x3 true]) (w : World) (X : Nat → Prop) (θ : List Loc) (x1 : List Nod) (i2 : Int) (i463 : Int) (x654 : (List Int)) : ∀ (n : Nat) (x633 : List Int) (i634 : Int), spec_walk_L2 rec x1 i2 i463 n x633 i634 = some x654 → WL EE ⟨w, X, θ, 79, 1⟩ (subC [1, 1, 1, 0, 1, 4, 4, 1, 0, 4, 1, 4, 4] (bodyC Try.f22)) (fun (e : Exit) (s : St) => e = .exit 2 ∧ s = ⟨[(0, .one (.e (.sl 0 0 x1.length))), (5, .one (.e (.sl 1 0 ([i2].length)))), (6, .one (.e (.sl 2 0 x654.length))), (7, I i463)], [.row .nod x1 false, .row .int [i2] true, .row .int x654 true]⟩) ⟨[(0, .one (.e (.sl 0 0 x1.length))), (5, .one (.e (.sl 1 0 ([i2].length)))), (6, .one (.e (.sl 2 0 x633.length))), (7, I i463), (8, I i634)], [.row .nod x1 false, .row .int [i2] true, .row .int x633 true]⟩ := by
  intro n
  induction n with
  | zero => intro _ _ h; exact none_e h
  | succ n ih =>
    intro x633 i634 h
    rw [spec_walk_L2] at h
    refine WL_round ?_
    refine W_seq ?_
    refine W_seq ?_
    refine bindO_e h (fun b661 hv662 h => ?_)
    refine W_cut (Q' := fun (e : Exit) (s : St) => e = .normal ∧ s = ⟨[(0, .one (.e (.sl 0 0 x1.length))), (5, .one (.e (.sl 1 0 ([i2].length)))), (6, .one (.e (.sl 2 0 x633.length))), (7, I i463), (8, I i634), (44, B b661)], [.row .nod x1 false, .row .int [i2] true, .row .int x633 true]⟩) ?_ ?_
    · refine iteO_e hv662 (fun hb656 hv662 => ?_) (fun hb656 hv662 => ?_)
      · refine guardO_e hv662 (fun hg657 hv662 => ?_)
        refine guardO_e hv662 (fun hg658 hv662 => ?_)
        refine guardO_e hv662 (fun hg659 hv662 => ?_)
        refine guardO_e hv662 (fun hg660 hv662 => ?_)
        refine W_draw [] true (by kernel_rfl) (by kernel_rfl) ?_
        refine WD_takeK [0, 1, 2] [0, 5, 6, 7, 8, 25] [0, 5, 6, 7, 8, 25] (φ := (True ∧ True ∧ True)) (ls' := #[true, true, true, false, false, false, false, false, false, false, false, false, false, false, false, false, false, false, false, false, false, false]) (Ts' := [(0, .one (.e (.sl 0 0 x1.length))), (5, .one (.e (.sl 1 0 ([i2].length)))), (6, .one (.e (.sl 2 0 x633.length))), (7, I i463), (8, I i634), (25, B (decide (0 < i634)))]) (st' := ⟨[(0, .one (.e (.sl 0 0 x1.length))), (5, .one (.e (.sl 1 0 ([i2].length)))), (6, .one (.e (.sl 2 0 x633.length))), (7, I i463), (8, I i634), (25, B (decide (0 < i634)))], [.row .nod x1 false, .row .int [i2] true, .row .int x633 true]⟩) (n2 := 19) (by kernel_rfl) ⟨trivial, trivial, trivial⟩ rfl ?_
        refine WD_known 25 true rfl rfl hb656 ?_
        refine WD_takeK [3, 4, 5, 6, 7, 8, 9, 10, 11, 12, 13, 14, 15, 16, 17, 18, 19, 20, 21] [0, 5, 6, 7, 8, 44] [0, 5, 6, 7, 8, 44] (φ := ((0 ≤ i634 ∧ i634 < ((x633.length : Nat) : Int)) ∧ (0 ≤ i634 ∧ i634 < ((x633.length : Nat) : Int)) ∧ (True ∧ True ∧ ((0 ≤ (x633.getD i634.toNat 0) ∧ (x633.getD i634.toNat 0) < ((x1.length : Nat) : Int)) ∧ (0 ≤ (x633.getD i634.toNat 0) ∧ (x633.getD i634.toNat 0) < ((x1.length : Nat) : Int)) ∧ (True ∧ True ∧ (True ∧ True ∧ ((0 ≤ (w64 (i634 - 1)) ∧ (w64 (i634 - 1)) < ((x633.length : Nat) : Int)) ∧ (0 ≤ (w64 (i634 - 1)) ∧ (w64 (i634 - 1)) < ((x633.length : Nat) : Int)) ∧ (True ∧ True ∧ ((0 ≤ (x633.getD ((w64 (i634 - 1)).toNat) 0) ∧ (x633.getD ((w64 (i634 - 1)).toNat) 0) < ((x1.length : Nat) : Int)) ∧ (0 ≤ (x633.getD ((w64 (i634 - 1)).toNat) 0) ∧ (x633.getD ((w64 (i634 - 1)).toNat) 0) < ((x1.length : Nat) : Int)) ∧ (True ∧ True ∧ (True ∧ True ∧ True))))))))))) (ls' := #[true, true, true, true, true, true, true, true, true, true, true, true, true, true, true, true, true, true, true, true, true, true]) (Ts' := [(0, .one (.e (.sl 0 0 x1.length))), (5, .one (.e (.sl 1 0 ([i2].length)))), (6, .one (.e (.sl 2 0 x633.length))), (7, I i463), (8, I i634), (44, B (Op.bytesLess ((x1.getD ((x633.getD i634.toNat 0).toNat) dnod).name) ((x1.getD ((x633.getD ((w64 (i634 - 1)).toNat) 0).toNat) dnod).name)))]) (st' := ⟨[(0, .one (.e (.sl 0 0 x1.length))), (5, .one (.e (.sl 1 0 ([i2].length)))), (6, .one (.e (.sl 2 0 x633.length))), (7, I i463), (8, I i634), (44, B (Op.bytesLess ((x1.getD ((x633.getD i634.toNat 0).toNat) dnod).name) ((x1.getD ((x633.getD ((w64 (i634 - 1)).toNat) 0).toNat) dnod).name)))], [.row .nod x1 false, .row .int [i2] true, .row .int x633 true]⟩) (n2 := 0) (by kernel_rfl) ⟨hg657, hg657, trivial, trivial, hg658, hg658, trivial, trivial, trivial, trivial, hg659, hg659, trivial, trivial, hg660, hg660, trivial, trivial, trivial, trivial, trivial⟩ rfl ?_
        exact WD_done [0, 1, 2] [0, 5, 6, 7, 8, 44] (st' := ⟨[(0, .one (.e (.sl 0 0 x1.length))), (5, .one (.e (.sl 1 0 ([i2].length)))), (6, .one (.e (.sl 2 0 x633.length))), (7, I i463), (8, I i634), (44, B (Op.bytesLess ((x1.getD ((x633.getD i634.toNat 0).toNat) dnod).name) ((x1.getD ((x633.getD ((w64 (i634 - 1)).toNat) 0).toNat) dnod).name)))], [.row .nod x1 false, .row .int [i2] true, .row .int x633 true]⟩) (by kernel_rfl) (by kernel_rfl) (And.intro rfl (by cases hv662; rfl))
      · refine W_draw [] true (by kernel_rfl) (by kernel_rfl) ?_
        refine WD_takeK [0, 1, 2] [0, 5, 6, 7, 8, 25] [0, 5, 6, 7, 8, 25] (φ := (True ∧ True ∧ True)) (ls' := #[true, true, true, false, false, false, false, false, false, false, false, false, false, false, false, false, false, false, false, false, false, false]) (Ts' := [(0, .one (.e (.sl 0 0 x1.length))), (5, .one (.e (.sl 1 0 ([i2].length)))), (6, .one (.e (.sl 2 0 x633.length))), (7, I i463), (8, I i634), (25, B (decide (0 < i634)))]) (st' := ⟨[(0, .one (.e (.sl 0 0 x1.length))), (5, .one (.e (.sl 1 0 ([i2].length)))), (6, .one (.e (.sl 2 0 x633.length))), (7, I i463), (8, I i634), (25, B (decide (0 < i634)))], [.row .nod x1 false, .row .int [i2] true, .row .int x633 true]⟩) (n2 := 19) (by kernel_rfl) ⟨trivial, trivial, trivial⟩ rfl ?_
        refine WD_known 25 false rfl rfl hb656 ?_
        refine WD_takeK [3, 4, 5, 6, 7, 8, 9, 10, 11, 12, 13, 14, 15, 16, 17, 18, 19, 20, 21] [0, 5, 6, 7, 8, 44] [0, 5, 6, 7, 8, 44] (φ := True) (ls' := #[true, true, true, true, true, true, true, true, true, true, true, true, true, true, true, true, true, true, true, true, true, true]) (Ts' := [(0, .one (.e (.sl 0 0 x1.length))), (5, .one (.e (.sl 1 0 ([i2].length)))), (6, .one (.e (.sl 2 0 x633.length))), (7, I i463), (8, I i634), (44, B false)]) (st' := ⟨[(0, .one (.e (.sl 0 0 x1.length))), (5, .one (.e (.sl 1 0 ([i2].length)))), (6, .one (.e (.sl 2 0 x633.length))), (7, I i463), (8, I i634), (44, B false)], [.row .nod x1 false, .row .int [i2] true, .row .int x633 true]⟩) (n2 := 0) (by kernel_rfl) trivial rfl ?_
        exact WD_done [0, 1, 2] [0, 5, 6, 7, 8, 44] (st' := ⟨[(0, .one (.e (.sl 0 0 x1.length))), (5, .one (.e (.sl 1 0 ([i2].length)))), (6, .one (.e (.sl 2 0 x633.length))), (7, I i463), (8, I i634), (44, B false)], [.row .nod x1 false, .row .int [i2] true, .row .int x633 true]⟩) (by kernel_rfl) (by kernel_rfl) (And.intro rfl (by cases hv662; rfl))
    · rintro _ _ ⟨rfl, rfl⟩
      refine thenS_n ?_
      refine iteO_e h (fun hb664 h => W_true rfl hb664 ?_) (fun hb664 h => W_false rfl hb664 ?_)
      · refine W_sub [0, 1, 2] [0, 5, 6, 7, 8] (st' := ⟨[(0, .one (.e (.sl 0 0 x1.length))), (5, .one (.e (.sl 1 0 ([i2].length)))), (6, .one (.e (.sl 2 0 x633.length))), (7, I i463), (8, I i634)], [.row .nod x1 false, .row .int [i2] true, .row .int x633 true]⟩) (by kernel_rfl) ?_
        refine W_skip ?_
        refine thenS_n ?_
        refine W_seq ?_
        refine W_block ?_
        refine W_seq ?_
        refine W_region ?_
        refine guardO_e h (fun hg669 h => ?_)
        refine WO_step 5 [0, 1, 2] [0, 5, 6, 7, 8, 9] ((0 ≤ i634 ∧ i634 < ((x633.length : Nat) : Int)) ∧ (True ∧ True)) ⟨[(0, .one (.e (.sl 0 0 x1.length))), (5, .one (.e (.sl 1 0 ([i2].length)))), (6, .one (.e (.sl 2 0 x633.length))), (7, I i463), (8, I i634), (9, I (x633.getD i634.toNat 0))], [.row .nod x1 false, .row .int [i2] true, .row .int x633 true]⟩ (by kernel_rfl) ⟨hg669, trivial, trivial⟩ ?_
        refine WO_nil rfl ?_
        refine thenS_n ?_
        refine W_seq ?_
        refine W_region ?_
        refine guardO_e h (fun hg670 h => ?_)
        refine guardO_e h (fun hg671 h => ?_)
        refine WO_step 9 [0, 1, 2] [0, 5, 6, 7, 8, 9] (True ∧ ((0 ≤ (w64 (i634 - 1)) ∧ (w64 (i634 - 1)) < ((x633.length : Nat) : Int)) ∧ (True ∧ ((0 ≤ i634 ∧ i634 < ((x633.length : Nat) : Int)) ∧ (True ∧ True))))) ⟨[(0, .one (.e (.sl 0 0 x1.length))), (5, .one (.e (.sl 1 0 ([i2].length)))), (6, .one (.e (.sl 2 0 x633.length))), (7, I i463), (8, I i634), (9, I (x633.getD i634.toNat 0))], [.row .nod x1 false, .row .int [i2] true, .row .int (x633.set i634.toNat (x633.getD ((w64 (i634 - 1)).toNat) 0)) true]⟩ (by kernel_rfl) ⟨trivial, hg670, trivial, hg671, trivial, trivial⟩ ?_
        refine WO_eq (st' := ⟨[(0, .one (.e (.sl 0 0 x1.length))), (5, .one (.e (.sl 1 0 ([i2].length)))), (6, .one (.e (.sl 2 0 ((x633.set i634.toNat (x633.getD ((w64 (i634 - 1)).toNat) 0)).length)))), (7, I i463), (8, I i634), (9, I (x633.getD i634.toNat 0))], [.row .nod x1 false, .row .int [i2] true, .row .int (x633.set i634.toNat (x633.getD ((w64 (i634 - 1)).toNat) 0)) true]⟩) (by simp only [List.length_set]) ?_
        refine WO_nil rfl ?_
        refine thenS_n ?_
        refine W_region ?_
        refine guardO_e h (fun hg672 h => ?_)
        refine WO_step 6 [0, 1, 2] [0, 5, 6, 7, 8] (True ∧ ((0 ≤ (w64 (i634 - 1)) ∧ (w64 (i634 - 1)) < (((x633.set i634.toNat (x633.getD ((w64 (i634 - 1)).toNat) 0)).length : Nat) : Int)) ∧ (True ∧ True))) ⟨[(0, .one (.e (.sl 0 0 x1.length))), (5, .one (.e (.sl 1 0 ([i2].length)))), (6, .one (.e (.sl 2 0 ((x633.set i634.toNat (x633.getD ((w64 (i634 - 1)).toNat) 0)).length)))), (7, I i463), (8, I i634)], [.row .nod x1 false, .row .int [i2] true, .row .int ((x633.set i634.toNat (x633.getD ((w64 (i634 - 1)).toNat) 0)).set ((w64 (i634 - 1)).toNat) (x633.getD i634.toNat 0)) true]⟩ (by kernel_rfl) ⟨trivial, hg672, trivial, trivial⟩ ?_
        refine WO_eq (st' := ⟨[(0, .one (.e (.sl 0 0 x1.length))), (5, .one (.e (.sl 1 0 ([i2].length)))), (6, .one (.e (.sl 2 0 (((x633.set i634.toNat (x633.getD ((w64 (i634 - 1)).toNat) 0)).set ((w64 (i634 - 1)).toNat) (x633.getD i634.toNat 0)).length)))), (7, I i463), (8, I i634)], [.row .nod x1 false, .row .int [i2] true, .row .int ((x633.set i634.toNat (x633.getD ((w64 (i634 - 1)).toNat) 0)).set ((w64 (i634 - 1)).toNat) (x633.getD i634.toNat 0)) true]⟩) (by simp only [List.length_set]) ?_
        refine WO_nil rfl ?_
        refine blockS_n ?_
        refine thenS_n ?_
        refine W_region ?_
        refine WO_step 3 [0, 1, 2] [0, 5, 6, 7, 8] (True ∧ True) ⟨[(0, .one (.e (.sl 0 0 x1.length))), (5, .one (.e (.sl 1 0 ([i2].length)))), (6, .one (.e (.sl 2 0 (((x633.set i634.toNat (x633.getD ((w64 (i634 - 1)).toNat) 0)).set ((w64 (i634 - 1)).toNat) (x633.getD i634.toNat 0)).length)))), (7, I i463), (8, I (w64 (i634 - 1)))], [.row .nod x1 false, .row .int [i2] true, .row .int ((x633.set i634.toNat (x633.getD ((w64 (i634 - 1)).toNat) 0)).set ((w64 (i634 - 1)).toNat) (x633.getD i634.toNat 0)) true]⟩ (by kernel_rfl) ⟨trivial, trivial⟩ ?_
        refine WO_nil rfl ?_
        refine thenS_n ?_
        exact ih _ _ h
      · refine W_sub [0, 1, 2] [0, 5, 6, 7] (st' := ⟨[(0, .one (.e (.sl 0 0 x1.length))), (5, .one (.e (.sl 1 0 ([i2].length)))), (6, .one (.e (.sl 2 0 x633.length))), (7, I i463)], [.row .nod x1 false, .row .int [i2] true, .row .int x633 true]⟩) (by kernel_rfl) ?_
        refine W_exit ?_
        refine thenS_e ?_
        refine thenS_e ?_
        cases h
        exact And.intro rfl rfl

def spec_walk_L1 (rec : (List Nod) → Int → Option ((List Int))) (x1 : List Nod) (i2 : Int) : Nat → (List Int) → Int → Option ((List Int))
| 0, _, _ => none
| n + 1, x462, i463 =>
 iteO (decide (i463 < ((x462.length : Nat) : Int)))
 (bindO (spec_walk_L2 rec x1 i2 i463 n x462 i463) fun x654 =>
 spec_walk_L1 rec x1 i2 n x654 (w64 (i463 + 1)))
 (some x462)

theorem spec_walk_L1_ok (rec : (List Nod) → Int → Option ((List Int))) (hrec : ∀ (x1 : List Nod) (i2 : Int) (x3 : List Int), rec x1 i2 = some x3 → FOk EE 22 [.one (.e (.sl 0 0 x1.length)), I i2] [.row .nod x1 false] (.one (.e (.sl 1 0 x3.length))) [.row .nod x1 false, .row .int x3 true]) (w : World) (X : Nat → Prop) (θ : List Loc) (x1 : List Nod) (i2 : Int) (x560 : (List Int)) : ∀ (n : Nat) (x462 : List Int) (i463 : Int), spec_walk_L1 rec x1 i2 n x462 i463 = some x560 → WL EE ⟨w, X, θ, 79, 1⟩ (subC [1, 1, 1, 0, 1, 4, 4] (bodyC Try.f22)) (fun (e : Exit) (s : St) => e = .exit 0 ∧ s = ⟨[(0, .one (.e (.sl 0 0 x1.length))), (5, .one (.e (.sl 1 0 ([i2].length)))), (6, .one (.e (.sl 2 0 x560.length)))], [.row .nod x1 false, .row .int [i2] true, .row .int x560 true]⟩) ⟨[(0, .one (.e (.sl 0 0 x1.length))), (5, .one (.e (.sl 1 0 ([i2].length)))), (6, .one (.e (.sl 2 0 x462.length))), (7, I i463)], [.row .nod x1 false, .row .int [i2] true, .row .int x462 true]⟩ := by
  intro n
  induction n with
  | zero => intro _ _ h; exact none_e h
  | succ n ih =>
    intro x462 i463 h
    rw [spec_walk_L1] at h
    refine WL_round ?_
    refine W_seq ?_
    refine W_seq ?_
    refine W_region ?_
    refine WO_step 4 [0, 1, 2] [0, 5, 6, 7, 19] (True ∧ (True ∧ True)) ⟨[(0, .one (.e (.sl 0 0 x1.length))), (5, .one (.e (.sl 1 0 ([i2].length)))), (6, .one (.e (.sl 2 0 x462.length))), (7, I i463), (19, B (decide (i463 < ((x462.length : Nat) : Int))))], [.row .nod x1 false, .row .int [i2] true, .row .int x462 true]⟩ (by kernel_rfl) ⟨trivial, trivial, trivial⟩ ?_
    refine WO_nil rfl ?_
    refine thenS_n ?_
    refine iteO_e h (fun hb563 h => W_true rfl hb563 ?_) (fun hb563 h => W_false rfl hb563 ?_)
    · refine W_sub [0, 1, 2] [0, 5, 6, 7] (st' := ⟨[(0, .one (.e (.sl 0 0 x1.length))), (5, .one (.e (.sl 1 0 ([i2].length)))), (6, .one (.e (.sl 2 0 x462.length))), (7, I i463)], [.row .nod x1 false, .row .int [i2] true, .row .int x462 true]⟩) (by kernel_rfl) ?_
      refine W_skip ?_
      refine thenS_n ?_
      refine W_seq ?_
      refine W_block ?_
      refine W_seq ?_
      refine W_region ?_
      refine WO_step 2 [0, 1, 2] [0, 5, 6, 7, 8] True ⟨[(0, .one (.e (.sl 0 0 x1.length))), (5, .one (.e (.sl 1 0 ([i2].length)))), (6, .one (.e (.sl 2 0 x462.length))), (7, I i463), (8, I i463)], [.row .nod x1 false, .row .int [i2] true, .row .int x462 true]⟩ (by kernel_rfl) trivial ?_
      refine WO_nil rfl ?_
      refine thenS_n ?_
      refine W_block ?_
      refine W_loop ?_
      refine bindO_e h (fun x654 hx654 h => ?_)
      refine WL_cut (spec_walk_L2_ok rec hrec w X θ x1 i2 i463 x654 n x462 i463 hx654) ?_
      rintro _ _ ⟨rfl, rfl⟩
      refine blockS_y ?_
      refine blockS_n ?_
      refine thenS_n ?_
      refine W_region ?_
      refine WO_step 3 [0, 1, 2] [0, 5, 6, 7] (True ∧ True) ⟨[(0, .one (.e (.sl 0 0 x1.length))), (5, .one (.e (.sl 1 0 ([i2].length)))), (6, .one (.e (.sl 2 0 x654.length))), (7, I (w64 (i463 + 1)))], [.row .nod x1 false, .row .int [i2] true, .row .int x654 true]⟩ (by kernel_rfl) ⟨trivial, trivial⟩ ?_
      refine WO_nil rfl ?_
      refine thenS_n ?_
      exact ih _ _ h
    · refine W_sub [0, 1, 2] [0, 5, 6] (st' := ⟨[(0, .one (.e (.sl 0 0 x1.length))), (5, .one (.e (.sl 1 0 ([i2].length)))), (6, .one (.e (.sl 2 0 x462.length)))], [.row .nod x1 false, .row .int [i2] true, .row .int x462 true]⟩) (by kernel_rfl) ?_
      refine W_exit ?_
      refine thenS_e ?_
      refine thenS_e ?_
      cases h
      exact And.intro rfl rfl

def spec_walk_L3 (rec : (List Nod) → Int → Option ((List Int))) (x1 : List Nod) (x560 : List Int) : Nat → (List Int) → Int → Option ((List Int))
| 0, _, _ => none
| n + 1, x691, i692 =>
 iteO (decide (i692 < ((x560.length : Nat) : Int)))
 (guardO (0 ≤ i692 ∧ i692 < ((x560.length : Nat) : Int)) <|
 bindO (rec x1 (x560.getD i692.toNat 0)) fun x714 =>
 guardO (0 = 0 ∧ x691.length = x691.length ∧ x691.length + ((x714.drop 0).take x714.length).length ≤ 1099511627776) <|
 spec_walk_L3 rec x1 x560 n (x691 ++ ((x714.drop 0).take x714.length)) (w64 (i692 + 1)))
 (some x691)

theorem spec_walk_L3_ok (rec : (List Nod) → Int → Option ((List Int))) (hrec : ∀ (x1 : List Nod) (i2 : Int) (x3 : List Int), rec x1 i2 = some x3 → FOk EE 22 [.one (.e (.sl 0 0 x1.length)), I i2] [.row .nod x1 false] (.one (.e (.sl 1 0 x3.length))) [.row .nod x1 false, .row .int x3 true]) (w : World) (X : Nat → Prop) (θ : List Loc) (x1 : List Nod) (x560 : List Int) (x705 : (List Int)) : ∀ (n : Nat) (x691 : List Int) (i692 : Int), spec_walk_L3 rec x1 x560 n x691 i692 = some x705 → WL EE ⟨w, X, θ, 79, 1⟩ (subC [1, 1, 1, 1, 0, 1, 4, 4] (bodyC Try.f22)) (fun (e : Exit) (s : St) => e = .exit 4 ∧ s = ⟨[(5, .one (.e (.sl 1 0 x705.length)))], [.row .nod x1 false, .row .int x705 true]⟩) ⟨[(0, .one (.e (.sl 0 0 x1.length))), (5, .one (.e (.sl 1 0 x691.length))), (6, .one (.e (.sl 2 0 x560.length))), (10, I i692)], [.row .nod x1 false, .row .int x691 true, .row .int x560 true]⟩ := by
  intro n
  induction n with
  | zero => intro _ _ h; exact none_e h
  | succ n ih =>
    intro x691 i692 h
    rw [spec_walk_L3] at h
    refine WL_round ?_
    refine W_seq ?_
    refine W_seq ?_
    refine W_region ?_
    refine WO_step 4 [0, 1, 2] [0, 5, 6, 10, 67] (True ∧ (True ∧ True)) ⟨[(0, .one (.e (.sl 0 0 x1.length))), (5, .one (.e (.sl 1 0 x691.length))), (6, .one (.e (.sl 2 0 x560.length))), (10, I i692), (67, B (decide (i692 < ((x560.length : Nat) : Int))))], [.row .nod x1 false, .row .int x691 true, .row .int x560 true]⟩ (by kernel_rfl) ⟨trivial, trivial, trivial⟩ ?_
    refine WO_nil rfl ?_
    refine thenS_n ?_
    refine iteO_e h (fun hb708 h => W_true rfl hb708 ?_) (fun hb708 h => W_false rfl hb708 ?_)
    · refine W_sub [0, 1, 2] [0, 5, 6, 10] (st' := ⟨[(0, .one (.e (.sl 0 0 x1.length))), (5, .one (.e (.sl 1 0 x691.length))), (6, .one (.e (.sl 2 0 x560.length))), (10, I i692)], [.row .nod x1 false, .row .int x691 true, .row .int x560 true]⟩) (by kernel_rfl) ?_
      refine W_skip ?_
      refine thenS_n ?_
      refine W_seq ?_
      refine W_block ?_
      refine W_region ?_
      refine guardO_e h (fun hg713 h => ?_)
      refine WO_step 6 [0, 2, 1] [0, 6, 10, 70, 71, 75] ((0 ≤ i692 ∧ i692 < ((x560.length : Nat) : Int)) ∧ (True ∧ True)) ⟨[(0, .one (.e (.sl 0 0 x1.length))), (6, .one (.e (.sl 1 0 x560.length))), (10, I i692), (70, .one (.e (.sl 2 0 x691.length))), (71, .one (.e (.sl 0 0 x1.length))), (75, I (x560.getD i692.toNat 0))], [.row .nod x1 false, .row .int x560 true, .row .int x691 true]⟩ (by kernel_rfl) ⟨hg713, trivial, trivial⟩ ?_
      refine bindO_e h (fun x714 hc715 h => ?_)
      refine WO_call [.ro 0] Try.f22 rfl rfl rfl (by kernel_rfl) Try.func22 rfl (by kernel_rfl) (hrec x1 (x560.getD i692.toNat 0) x714 hc715) (And.intro (And.intro rfl rfl) (trivial)) rfl ?_
      refine guardO_e h (fun hg716 h => ?_)
      refine WO_step 2 [0, 4, 1] [0, 5, 6, 10] ((0 = 0 ∧ x691.length = x691.length ∧ x691.length + ((x714.drop 0).take x714.length).length ≤ 1099511627776) ∧ True) ⟨[(0, .one (.e (.sl 0 0 x1.length))), (5, .one (.e (.sl 1 0 ((x691 ++ ((x714.drop 0).take x714.length)).length)))), (6, .one (.e (.sl 2 0 x560.length))), (10, I i692)], [.row .nod x1 false, .row .int (x691 ++ ((x714.drop 0).take x714.length)) true, .row .int x560 true]⟩ (by kernel_rfl) ⟨hg716, trivial⟩ ?_
      refine WO_nil rfl ?_
      refine blockS_n ?_
      refine thenS_n ?_
      refine W_region ?_
      refine WO_step 3 [0, 1, 2] [0, 5, 6, 10] (True ∧ True) ⟨[(0, .one (.e (.sl 0 0 x1.length))), (5, .one (.e (.sl 1 0 ((x691 ++ ((x714.drop 0).take x714.length)).length)))), (6, .one (.e (.sl 2 0 x560.length))), (10, I (w64 (i692 + 1)))], [.row .nod x1 false, .row .int (x691 ++ ((x714.drop 0).take x714.length)) true, .row .int x560 true]⟩ (by kernel_rfl) ⟨trivial, trivial⟩ ?_
      refine WO_nil rfl ?_
      refine thenS_n ?_
      exact ih _ _ h
    · refine W_sub [0, 1] [5] (st' := ⟨[(5, .one (.e (.sl 1 0 x691.length)))], [.row .nod x1 false, .row .int x691 true]⟩) (by kernel_rfl) ?_
      refine W_exit ?_
      refine thenS_e ?_
      refine thenS_e ?_
      cases h
      exact And.intro rfl rfl

def spec_walk_B (rec : (List Nod) → Int → Option ((List Int))) (n : Nat) (x1 : List Nod) (i2 : Int) : Option ((List Int)) :=
 bindO (spec_kids n x1 i2) fun x360 =>
 bindO (spec_walk_L1 rec x1 i2 n x360 0) fun x560 =>
 bindO (spec_walk_L3 rec x1 x560 n [i2] 0) fun x705 =>
 some x705

theorem spec_walk_B_ok (rec : (List Nod) → Int → Option ((List Int))) (hrec : ∀ (x1 : List Nod) (i2 : Int) (x3 : List Int), rec x1 i2 = some x3 → FOk EE 22 [.one (.e (.sl 0 0 x1.length)), I i2] [.row .nod x1 false] (.one (.e (.sl 1 0 x3.length))) [.row .nod x1 false, .row .int x3 true]) (n : Nat) (x1 : List Nod) (i2 : Int) (x359 : List Int) (h : spec_walk_B rec n x1 i2 = some x359) : FOk EE 22 [.one (.e (.sl 0 0 x1.length)), I i2] [.row .nod x1 false] (.one (.e (.sl 1 0 x359.length))) [.row .nod x1 false, .row .int x359 true] := by
  unfold spec_walk_B at h
  refine FOk_of_W 79 1 Try.func22 rfl rfl (Nat.le_of_ble_eq_true rfl) rfl (fun w X θ => ?_)
  refine W_seq ?_
  refine W_region ?_
  refine WO_step 1 [0] [0, 1] True ⟨[(0, .one (.e (.sl 0 0 x1.length))), (1, I i2)], [.row .nod x1 false]⟩ (by kernel_rfl) trivial ?_
  refine WO_nil rfl ?_
  refine thenS_n ?_
  refine W_seq ?_
  refine W_region ?_
  refine WO_step 3 [0, 1] [0, 1, 5] True ⟨[(0, .one (.e (.sl 0 0 x1.length))), (1, I i2), (5, .one (.e (.sl 1 0 ([i2].length))))], [.row .nod x1 false, .row .int [i2] true]⟩ (by kernel_rfl) trivial ?_
  refine WO_nil rfl ?_
  refine thenS_n ?_
  refine W_seq ?_
  refine W_region ?_
  refine WO_step 2 [0, 1] [0, 5, 13, 14] True ⟨[(0, .one (.e (.sl 0 0 x1.length))), (5, .one (.e (.sl 1 0 ([i2].length)))), (13, .one (.e (.sl 0 0 x1.length))), (14, I i2)], [.row .nod x1 false, .row .int [i2] true]⟩ (by kernel_rfl) trivial ?_
  refine bindO_e h (fun x360 hc361 h => ?_)
  refine WO_call [.ro 0] Try.f44 rfl rfl rfl (by kernel_rfl) Try.func44 rfl (by kernel_rfl) (spec_kids_ok n x1 i2 x360 hc361) (And.intro (And.intro rfl rfl) (trivial)) rfl ?_
  refine WO_step 1 [0, 1, 2] [0, 5, 6] True ⟨[(0, .one (.e (.sl 0 0 x1.length))), (5, .one (.e (.sl 1 0 ([i2].length)))), (6, .one (.e (.sl 2 0 x360.length)))], [.row .nod x1 false, .row .int [i2] true, .row .int x360 true]⟩ (by kernel_rfl) trivial ?_
  refine WO_nil rfl ?_
  refine thenS_n ?_
  refine W_seq ?_
  refine W_seq ?_
  refine W_region ?_
  refine WO_step 1 [0, 1, 2] [0, 5, 6, 7] True ⟨[(0, .one (.e (.sl 0 0 x1.length))), (5, .one (.e (.sl 1 0 ([i2].length)))), (6, .one (.e (.sl 2 0 x360.length))), (7, I 0)], [.row .nod x1 false, .row .int [i2] true, .row .int x360 true]⟩ (by kernel_rfl) trivial ?_
  refine WO_nil rfl ?_
  refine thenS_n ?_
  refine W_block ?_
  refine W_loop ?_
  refine bindO_e h (fun x560 hx560 h => ?_)
  refine WL_cut (spec_walk_L1_ok rec hrec w X θ x1 i2 x560 n x360 0 hx560) ?_
  rintro _ _ ⟨rfl, rfl⟩
  refine blockS_y ?_
  refine thenS_n ?_
  refine W_seq ?_
  refine W_seq ?_
  refine W_region ?_
  refine WO_step 1 [0, 1, 2] [0, 5, 6, 10] True ⟨[(0, .one (.e (.sl 0 0 x1.length))), (5, .one (.e (.sl 1 0 ([i2].length)))), (6, .one (.e (.sl 2 0 x560.length))), (10, I 0)], [.row .nod x1 false, .row .int [i2] true, .row .int x560 true]⟩ (by kernel_rfl) trivial ?_
  refine WO_nil rfl ?_
  refine thenS_n ?_
  refine W_block ?_
  refine W_loop ?_
  refine bindO_e h (fun x705 hx705 h => ?_)
  refine WL_cut (spec_walk_L3_ok rec hrec w X θ x1 x560 x705 n [i2] 0 hx705) ?_
  rintro _ _ ⟨rfl, rfl⟩
  refine blockS_y ?_
  refine thenS_n ?_
  refine W_seq ?_
  refine W_region ?_
  refine WO_step 2 [0, 1] [4] True ⟨[(4, .one (.e (.sl 1 0 x705.length)))], [.row .nod x1 false, .row .int x705 true]⟩ (by kernel_rfl) trivial ?_
  refine WO_nil rfl ?_
  refine thenS_n ?_
  refine W_ret ?_
  cases h
  exact ⟨[0, 1], True, by kernel_rfl, trivial⟩

def spec_walk : Nat → (List Nod) → Int → Option ((List Int))
| 0, _, _ => none
| n + 1, x1, i2 => spec_walk_B (spec_walk n) n x1 i2

theorem spec_walk_ok : ∀ (n : Nat) (x1 : List Nod) (i2 : Int) (x359 : List Int), spec_walk n x1 i2 = some x359 → FOk EE 22 [.one (.e (.sl 0 0 x1.length)), I i2] [.row .nod x1 false] (.one (.e (.sl 1 0 x359.length))) [.row .nod x1 false, .row .int x359 true] := by
  intro n
  induction n with
  | zero => intro _ _ _ h; exact none_e h
  | succ n ih => intro x1 i2 x359 h; exact spec_walk_B_ok (spec_walk n) ih n x1 i2 x359 h

/- spec.pathTo -/
def spec_pathTo_L1 (x1 : List Nod) : Nat → (List Int) → Int → Option ((List Int))
| 0, _, _ => none
| n + 1, x46, i47 =>
 iteO (decide (0 < i47))
 (guardO (0 ≤ i47 ∧ i47 < ((x1.length : Nat) : Int)) <|
 guardO (0 = 0 ∧ [(x1.getD i47.toNat dnod).parent].length = [(x1.getD i47.toNat dnod).parent].length ∧ [(x1.getD i47.toNat dnod).parent].length + ((x46.drop 0).take x46.length).length ≤ 1099511627776) <|
 spec_pathTo_L1 x1 n ([(x1.getD i47.toNat dnod).parent] ++ ((x46.drop 0).take x46.length)) ((x1.getD i47.toNat dnod).parent))
 (some x46)

theorem spec_pathTo_L1_ok (w : World) (X : Nat → Prop) (θ : List Loc) (x1 : List Nod) (x56 : (List Int)) : ∀ (n : Nat) (x46 : List Int) (i47 : Int), spec_pathTo_L1 x1 n x46 i47 = some x56 → WL EE ⟨w, X, θ, 20, 1⟩ (subC [1, 1, 0, 4, 4] (bodyC Try.f45)) (fun (e : Exit) (s : St) => e = .exit 0 ∧ s = ⟨[(5, .one (.e (.sl 1 0 x56.length)))], [.row .nod x1 false, .row .int x56 true]⟩) ⟨[(0, .one (.e (.sl 0 0 x1.length))), (1, I i47), (5, .one (.e (.sl 1 0 x46.length)))], [.row .nod x1 false, .row .int x46 true]⟩ := by
  intro n
  induction n with
  | zero => intro _ _ h; exact none_e h
  | succ n ih =>
    intro x46 i47 h
    rw [spec_pathTo_L1] at h
    refine WL_round ?_
    refine W_seq ?_
    refine W_seq ?_
    refine W_region ?_
    refine WO_step 2 [0, 1] [0, 1, 5, 9] (True ∧ True) ⟨[(0, .one (.e (.sl 0 0 x1.length))), (1, I i47), (5, .one (.e (.sl 1 0 x46.length))), (9, B (decide (0 < i47)))], [.row .nod x1 false, .row .int x46 true]⟩ (by kernel_rfl) ⟨trivial, trivial⟩ ?_
    refine WO_nil rfl ?_
    refine thenS_n ?_
    refine iteO_e h (fun hb59 h => W_true rfl hb59 ?_) (fun hb59 h => W_false rfl hb59 ?_)
    · refine W_sub [0, 1] [0, 1, 5] (st' := ⟨[(0, .one (.e (.sl 0 0 x1.length))), (1, I i47), (5, .one (.e (.sl 1 0 x46.length)))], [.row .nod x1 false, .row .int x46 true]⟩) (by kernel_rfl) ?_
      refine W_skip ?_
      refine thenS_n ?_
      refine W_block ?_
      refine W_seq ?_
      refine W_region ?_
      refine guardO_e h (fun hg62 h => ?_)
      refine WO_step 6 [0, 1] [0, 1, 5] ((0 ≤ i47 ∧ i47 < ((x1.length : Nat) : Int)) ∧ (True ∧ True)) ⟨[(0, .one (.e (.sl 0 0 x1.length))), (1, I ((x1.getD i47.toNat dnod).parent)), (5, .one (.e (.sl 1 0 x46.length)))], [.row .nod x1 false, .row .int x46 true]⟩ (by kernel_rfl) ⟨hg62, trivial, trivial⟩ ?_
      refine WO_nil rfl ?_
      refine thenS_n ?_
      refine W_region ?_
      refine guardO_e h (fun hg63 h => ?_)
      refine WO_step 5 [0, 3] [0, 1, 5] ((0 = 0 ∧ [(x1.getD i47.toNat dnod).parent].length = [(x1.getD i47.toNat dnod).parent].length ∧ [(x1.getD i47.toNat dnod).parent].length + ((x46.drop 0).take x46.length).length ≤ 1099511627776) ∧ True) ⟨[(0, .one (.e (.sl 0 0 x1.length))), (1, I ((x1.getD i47.toNat dnod).parent)), (5, .one (.e (.sl 1 0 (([(x1.getD i47.toNat dnod).parent] ++ ((x46.drop 0).take x46.length)).length))))], [.row .nod x1 false, .row .int ([(x1.getD i47.toNat dnod).parent] ++ ((x46.drop 0).take x46.length)) true]⟩ (by kernel_rfl) ⟨hg63, trivial⟩ ?_
      refine WO_nil rfl ?_
      refine blockS_n ?_
      refine thenS_n ?_
      exact ih _ _ h
    · refine W_sub [0, 1] [5] (st' := ⟨[(5, .one (.e (.sl 1 0 x46.length)))], [.row .nod x1 false, .row .int x46 true]⟩) (by kernel_rfl) ?_
      refine W_exit ?_
      refine thenS_e ?_
      refine thenS_e ?_
      cases h
      exact And.intro rfl rfl

def spec_pathTo (n : Nat) (x1 : List Nod) (i2 : Int) : Option ((List Int)) :=
 bindO (spec_pathTo_L1 x1 n [i2] i2) fun x56 =>
 some x56

theorem spec_pathTo_ok (n : Nat) (x1 : List Nod) (i2 : Int) (x33 : List Int) (h : spec_pathTo n x1 i2 = some x33) : FOk EE 45 [.one (.e (.sl 0 0 x1.length)), I i2] [.row .nod x1 false] (.one (.e (.sl 1 0 x33.length))) [.row .nod x1 false, .row .int x33 true] := by
  unfold spec_pathTo at h
  refine FOk_of_W 20 1 Try.func45 rfl rfl (Nat.le_of_ble_eq_true rfl) rfl (fun w X θ => ?_)
  refine W_seq ?_
  refine W_region ?_
  refine WO_step 1 [0] [0, 1] True ⟨[(0, .one (.e (.sl 0 0 x1.length))), (1, I i2)], [.row .nod x1 false]⟩ (by kernel_rfl) trivial ?_
  refine WO_nil rfl ?_
  refine thenS_n ?_
  refine W_seq ?_
  refine W_region ?_
  refine WO_step 3 [0, 1] [0, 1, 5] True ⟨[(0, .one (.e (.sl 0 0 x1.length))), (1, I i2), (5, .one (.e (.sl 1 0 ([i2].length))))], [.row .nod x1 false, .row .int [i2] true]⟩ (by kernel_rfl) trivial ?_
  refine WO_nil rfl ?_
  refine thenS_n ?_
  refine W_seq ?_
  refine W_block ?_
  refine W_loop ?_
  refine bindO_e h (fun x56 hx56 h => ?_)
  refine WL_cut (spec_pathTo_L1_ok w X θ x1 x56 n [i2] i2 hx56) ?_
  rintro _ _ ⟨rfl, rfl⟩
  refine blockS_y ?_
  refine thenS_n ?_
  refine W_seq ?_
  refine W_region ?_
  refine WO_step 2 [0, 1] [4] True ⟨[(4, .one (.e (.sl 1 0 x56.length)))], [.row .nod x1 false, .row .int x56 true]⟩ (by kernel_rfl) trivial ?_
  refine WO_nil rfl ?_
  refine thenS_n ?_
  refine W_ret ?_
  cases h
  exact ⟨[0, 1], True, by kernel_rfl, trivial⟩

/- spec.pathText -/
def spec_pathText_L1 (x1 : List Nod) (i2 : Int) (x48 : List Int) : Nat → Str → Int → Option (Str)
| 0, _, _ => none
| n + 1, s66, i67 =>
 iteO (decide (i67 < ((x48.length : Nat) : Int)))
 (guardO (s66.length + [47].length ≤ 1099511627776) <|
 guardO (0 ≤ i67 ∧ i67 < ((x48.length : Nat) : Int)) <|
 guardO (0 ≤ (x48.getD i67.toNat 0) ∧ (x48.getD i67.toNat 0) < ((x1.length : Nat) : Int)) <|
 guardO ((s66 ++ [47]).length + ((x1.getD ((x48.getD i67.toNat 0).toNat) dnod).name).length ≤ 1099511627776) <|
 spec_pathText_L1 x1 i2 x48 n ((s66 ++ [47]) ++ ((x1.getD ((x48.getD i67.toNat 0).toNat) dnod).name)) (w64 (i67 + 1)))
 (some s66)

theorem spec_pathText_L1_ok (w : World) (X : Nat → Prop) (θ : List Loc) (x1 : List Nod) (i2 : Int) (x48 : List Int) (s80 : Str) : ∀ (n : Nat) (s66 : Str) (i67 : Int), spec_pathText_L1 x1 i2 x48 n s66 i67 = some s80 → WL EE ⟨w, X, θ, 31, 1⟩ (subC [1, 1, 1, 0, 1, 4, 4] (bodyC Try.f24)) (fun (e : Exit) (s : St) => e = .exit 0 ∧ s = ⟨[(1, I i2), (5, S s80)], [.row .nod x1 false]⟩) ⟨[(0, .one (.e (.sl 0 0 x1.length))), (1, I i2), (5, S s66), (6, .one (.e (.sl 1 0 x48.length))), (7, I i67)], [.row .nod x1 false, .row .int x48 true]⟩ := by
  intro n
  induction n with
  | zero => intro _ _ h; exact none_e h
  | succ n ih =>
    intro s66 i67 h
    rw [spec_pathText_L1] at h
    refine WL_round ?_
    refine W_seq ?_
    refine W_seq ?_
    refine W_region ?_
    refine WO_step 4 [0, 1] [0, 1, 5, 6, 7, 14] (True ∧ (True ∧ True)) ⟨[(0, .one (.e (.sl 0 0 x1.length))), (1, I i2), (5, S s66), (6, .one (.e (.sl 1 0 x48.length))), (7, I i67), (14, B (decide (i67 < ((x48.length : Nat) : Int))))], [.row .nod x1 false, .row .int x48 true]⟩ (by kernel_rfl) ⟨trivial, trivial, trivial⟩ ?_
    refine WO_nil rfl ?_
    refine thenS_n ?_
    refine iteO_e h (fun hb83 h => W_true rfl hb83 ?_) (fun hb83 h => W_false rfl hb83 ?_)
    · refine W_sub [0, 1] [0, 1, 5, 6, 7] (st' := ⟨[(0, .one (.e (.sl 0 0 x1.length))), (1, I i2), (5, S s66), (6, .one (.e (.sl 1 0 x48.length))), (7, I i67)], [.row .nod x1 false, .row .int x48 true]⟩) (by kernel_rfl) ?_
      refine W_skip ?_
      refine thenS_n ?_
      refine W_seq ?_
      refine W_block ?_
      refine W_region ?_
      refine guardO_e h (fun hg88 h => ?_)
      refine guardO_e h (fun hg89 h => ?_)
      refine guardO_e h (fun hg90 h => ?_)
      refine guardO_e h (fun hg91 h => ?_)
      refine WO_step 12 [0, 1] [0, 1, 5, 6, 7] ((s66.length + [47].length ≤ 1099511627776) ∧ ((0 ≤ i67 ∧ i67 < ((x48.length : Nat) : Int)) ∧ (True ∧ ((0 ≤ (x48.getD i67.toNat 0) ∧ (x48.getD i67.toNat 0) < ((x1.length : Nat) : Int)) ∧ (True ∧ (((s66 ++ [47]).length + ((x1.getD ((x48.getD i67.toNat 0).toNat) dnod).name).length ≤ 1099511627776) ∧ True)))))) ⟨[(0, .one (.e (.sl 0 0 x1.length))), (1, I i2), (5, S ((s66 ++ [47]) ++ ((x1.getD ((x48.getD i67.toNat 0).toNat) dnod).name))), (6, .one (.e (.sl 1 0 x48.length))), (7, I i67)], [.row .nod x1 false, .row .int x48 true]⟩ (by kernel_rfl) ⟨hg88, hg89, trivial, hg90, trivial, hg91, trivial⟩ ?_
      refine WO_nil rfl ?_
      refine blockS_n ?_
      refine thenS_n ?_
      refine W_region ?_
      refine WO_step 3 [0, 1] [0, 1, 5, 6, 7] (True ∧ True) ⟨[(0, .one (.e (.sl 0 0 x1.length))), (1, I i2), (5, S ((s66 ++ [47]) ++ ((x1.getD ((x48.getD i67.toNat 0).toNat) dnod).name))), (6, .one (.e (.sl 1 0 x48.length))), (7, I (w64 (i67 + 1)))], [.row .nod x1 false, .row .int x48 true]⟩ (by kernel_rfl) ⟨trivial, trivial⟩ ?_
      refine WO_nil rfl ?_
      refine thenS_n ?_
      exact ih _ _ h
    · refine W_sub [0] [1, 5] (st' := ⟨[(1, I i2), (5, S s66)], [.row .nod x1 false]⟩) (by kernel_rfl) ?_
      refine W_exit ?_
      refine thenS_e ?_
      refine thenS_e ?_
      cases h
      exact And.intro rfl rfl

def spec_pathText (n : Nat) (x1 : List Nod) (i2 : Int) : Option (Str) :=
 bindO (spec_pathTo n x1 i2) fun x48 =>
 bindO (spec_pathText_L1 x1 i2 x48 n [] 1) fun s80 =>
 iteO (decide (i2 = 0))
 (some [47])
 (some s80)

theorem spec_pathText_ok (n : Nat) (x1 : List Nod) (i2 : Int) (s47 : Str) (h : spec_pathText n x1 i2 = some s47) : FOk EE 24 [.one (.e (.sl 0 0 x1.length)), I i2] [.row .nod x1 false] (S s47) [.row .nod x1 false] := by
  unfold spec_pathText at h
  refine FOk_of_W 31 1 Try.func24 rfl rfl (Nat.le_of_ble_eq_true rfl) rfl (fun w X θ => ?_)
  refine W_seq ?_
  refine W_region ?_
  refine WO_step 1 [0] [0, 1] True ⟨[(0, .one (.e (.sl 0 0 x1.length))), (1, I i2)], [.row .nod x1 false]⟩ (by kernel_rfl) trivial ?_
  refine WO_nil rfl ?_
  refine thenS_n ?_
  refine W_seq ?_
  refine W_region ?_
  refine WO_step 1 [0] [0, 1, 5] True ⟨[(0, .one (.e (.sl 0 0 x1.length))), (1, I i2), (5, S [])], [.row .nod x1 false]⟩ (by kernel_rfl) trivial ?_
  refine WO_nil rfl ?_
  refine thenS_n ?_
  refine W_seq ?_
  refine W_region ?_
  refine WO_step 2 [0] [0, 1, 5, 8, 9] True ⟨[(0, .one (.e (.sl 0 0 x1.length))), (1, I i2), (5, S []), (8, .one (.e (.sl 0 0 x1.length))), (9, I i2)], [.row .nod x1 false]⟩ (by kernel_rfl) trivial ?_
  refine bindO_e h (fun x48 hc49 h => ?_)
  refine WO_call [.ro 0] Try.f45 rfl rfl rfl (by kernel_rfl) Try.func45 rfl (by kernel_rfl) (spec_pathTo_ok n x1 i2 x48 hc49) (And.intro (And.intro rfl rfl) (trivial)) rfl ?_
  refine WO_step 1 [0, 1] [0, 1, 5, 6] True ⟨[(0, .one (.e (.sl 0 0 x1.length))), (1, I i2), (5, S []), (6, .one (.e (.sl 1 0 x48.length)))], [.row .nod x1 false, .row .int x48 true]⟩ (by kernel_rfl) trivial ?_
  refine WO_nil rfl ?_
  refine thenS_n ?_
  refine W_seq ?_
  refine W_seq ?_
  refine W_region ?_
  refine WO_step 1 [0, 1] [0, 1, 5, 6, 7] True ⟨[(0, .one (.e (.sl 0 0 x1.length))), (1, I i2), (5, S []), (6, .one (.e (.sl 1 0 x48.length))), (7, I 1)], [.row .nod x1 false, .row .int x48 true]⟩ (by kernel_rfl) trivial ?_
  refine WO_nil rfl ?_
  refine thenS_n ?_
  refine W_block ?_
  refine W_loop ?_
  refine bindO_e h (fun s80 hs80 h => ?_)
  refine WL_cut (spec_pathText_L1_ok w X θ x1 i2 x48 s80 n [] 1 hs80) ?_
  rintro _ _ ⟨rfl, rfl⟩
  refine blockS_y ?_
  refine thenS_n ?_
  refine W_seq ?_
  refine W_seq ?_
  refine W_region ?_
  refine WO_step 2 [0] [5, 29] (True ∧ True) ⟨[(5, S s80), (29, B (decide (i2 = 0)))], [.row .nod x1 false]⟩ (by kernel_rfl) ⟨trivial, trivial⟩ ?_
  refine WO_nil rfl ?_
  refine thenS_n ?_
  refine iteO_e h (fun hb94 h => W_true rfl hb94 ?_) (fun hb94 h => W_false rfl hb94 ?_)
  · refine W_seq ?_
    refine W_region ?_
    refine WO_step 1 [0] [4] True ⟨[(4, S [47])], [.row .nod x1 false]⟩ (by kernel_rfl) trivial ?_
    refine WO_nil rfl ?_
    refine thenS_n ?_
    refine W_ret ?_
    refine thenS_r ?_
    cases h
    exact ⟨[0], True, by kernel_rfl, trivial⟩
  · refine W_sub [0] [5] (st' := ⟨[(5, S s80)], [.row .nod x1 false]⟩) (by kernel_rfl) ?_
    refine W_skip ?_
    refine thenS_n ?_
    refine W_seq ?_
    refine W_region ?_
    refine WO_step 2 [0] [4] True ⟨[(4, S s80)], [.row .nod x1 false]⟩ (by kernel_rfl) trivial ?_
    refine WO_nil rfl ?_
    refine thenS_n ?_
    refine W_ret ?_
    cases h
    exact ⟨[0], True, by kernel_rfl, trivial⟩

/- spec.resolve -/
def spec_resolve_L1 (x1 : List Nod) (s2 : Str) : Nat → Int → Option ((Int) ⊕ (Unit))
| 0, _ => none
| n + 1, i56 =>
 iteO (decide (i56 < ((x1.length : Nat) : Int)))
 (bindO (spec_pathText n x1 i56) fun s76 =>
 iteO (decide (s76 = s2))
 (some (.inl i56))
 (spec_resolve_L1 x1 s2 n (w64 (i56 + 1))))
 (some (.inr ()))

theorem spec_resolve_L1_ok (w : World) (X : Nat → Prop) (θ : List Loc) (x1 : List Nod) (s2 : Str) (v : (Int) ⊕ (Unit)) : ∀ (n : Nat) (i56 : Int), spec_resolve_L1 x1 s2 n i56 = some v → WL EE ⟨w, X, θ, 18, 1⟩ (subC [1, 0, 1, 4, 4] (bodyC Try.f23)) (fun (e : Exit) (s : St) => (match v with | (.inl i68) => e = .ret ∧ s = ⟨[(4, I i68)], [.row .nod x1 false]⟩ | (.inr _) => e = .exit 0 ∧ s = ⟨[], [.row .nod x1 false]⟩ : Prop)) ⟨[(0, .one (.e (.sl 0 0 x1.length))), (1, S s2), (5, I i56)], [.row .nod x1 false]⟩ := by
  intro n
  induction n with
  | zero => intro _ h; exact none_e h
  | succ n ih =>
    intro i56 h
    rw [spec_resolve_L1] at h
    refine WL_round ?_
    refine W_seq ?_
    refine W_seq ?_
    refine W_region ?_
    refine WO_step 4 [0] [0, 1, 5, 9] (True ∧ (True ∧ True)) ⟨[(0, .one (.e (.sl 0 0 x1.length))), (1, S s2), (5, I i56), (9, B (decide (i56 < ((x1.length : Nat) : Int))))], [.row .nod x1 false]⟩ (by kernel_rfl) ⟨trivial, trivial, trivial⟩ ?_
    refine WO_nil rfl ?_
    refine thenS_n ?_
    refine iteO_e h (fun hb71 h => W_true rfl hb71 ?_) (fun hb71 h => W_false rfl hb71 ?_)
    · refine W_sub [0] [0, 1, 5] (st' := ⟨[(0, .one (.e (.sl 0 0 x1.length))), (1, S s2), (5, I i56)], [.row .nod x1 false]⟩) (by kernel_rfl) ?_
      refine W_skip ?_
      refine thenS_n ?_
      refine W_seq ?_
      refine W_block ?_
      refine W_seq ?_
      refine W_region ?_
      refine WO_step 2 [0] [0, 1, 5, 12, 13] True ⟨[(0, .one (.e (.sl 0 0 x1.length))), (1, S s2), (5, I i56), (12, .one (.e (.sl 0 0 x1.length))), (13, I i56)], [.row .nod x1 false]⟩ (by kernel_rfl) trivial ?_
      refine bindO_e h (fun s76 hc77 h => ?_)
      refine WO_call [.ro 0] Try.f24 rfl rfl rfl (by kernel_rfl) Try.func24 rfl (by kernel_rfl) (spec_pathText_ok n x1 i56 s76 hc77) (And.intro (And.intro rfl rfl) (trivial)) rfl ?_
      refine WO_step 2 [0] [0, 1, 5, 16] (True ∧ True) ⟨[(0, .one (.e (.sl 0 0 x1.length))), (1, S s2), (5, I i56), (16, B (decide (s76 = s2)))], [.row .nod x1 false]⟩ (by kernel_rfl) ⟨trivial, trivial⟩ ?_
      refine WO_nil rfl ?_
      refine thenS_n ?_
      refine iteO_e h (fun hb79 h => W_true rfl hb79 ?_) (fun hb79 h => W_false rfl hb79 ?_)
      · refine W_seq ?_
        refine W_region ?_
        refine WO_step 2 [0] [4] True ⟨[(4, I i56)], [.row .nod x1 false]⟩ (by kernel_rfl) trivial ?_
        refine WO_nil rfl ?_
        refine thenS_n ?_
        refine W_ret ?_
        refine blockS_r ?_
        refine thenS_r ?_
        refine thenS_r ?_
        cases h
        exact And.intro rfl rfl
      · refine W_sub [0] [0, 1, 5] (st' := ⟨[(0, .one (.e (.sl 0 0 x1.length))), (1, S s2), (5, I i56)], [.row .nod x1 false]⟩) (by kernel_rfl) ?_
        refine W_skip ?_
        refine blockS_n ?_
        refine thenS_n ?_
        refine W_region ?_
        refine WO_step 3 [0] [0, 1, 5] (True ∧ True) ⟨[(0, .one (.e (.sl 0 0 x1.length))), (1, S s2), (5, I (w64 (i56 + 1)))], [.row .nod x1 false]⟩ (by kernel_rfl) ⟨trivial, trivial⟩ ?_
        refine WO_nil rfl ?_
        refine thenS_n ?_
        exact ih _ h
    · refine W_sub [0] [] (st' := ⟨[], [.row .nod x1 false]⟩) (by kernel_rfl) ?_
      refine W_exit ?_
      refine thenS_e ?_
      refine thenS_e ?_
      cases h
      exact And.intro rfl rfl

def spec_resolve (n : Nat) (x1 : List Nod) (s2 : Str) : Option (Int) :=
 bindO (spec_resolve_L1 x1 s2 n 0) fun v80 =>
 match v80 with
 | (.inl i68) => (some i68)
 | (.inr _) => (some (-1))


theorem spec_resolve_ok (n : Nat) (x1 : List Nod) (s2 : Str) (i41 : Int) (h : spec_resolve n x1 s2 = some i41) : FOk EE 23 [.one (.e (.sl 0 0 x1.length)), S s2] [.row .nod x1 false] (I i41) [.row .nod x1 false] := by
  unfold spec_resolve at h
  refine FOk_of_W 18 1 Try.func23 rfl rfl (Nat.le_of_ble_eq_true rfl) rfl (fun w X θ => ?_)
  refine W_seq ?_
  refine W_region ?_
  refine WO_step 1 [0] [0, 1] True ⟨[(0, .one (.e (.sl 0 0 x1.length))), (1, S s2)], [.row .nod x1 false]⟩ (by kernel_rfl) trivial ?_
  refine WO_nil rfl ?_
  refine thenS_n ?_
  refine W_seq ?_
  refine W_seq ?_
  refine W_region ?_
  refine WO_step 1 [0] [0, 1, 5] True ⟨[(0, .one (.e (.sl 0 0 x1.length))), (1, S s2), (5, I 0)], [.row .nod x1 false]⟩ (by kernel_rfl) trivial ?_
  refine WO_nil rfl ?_
  refine thenS_n ?_
  refine W_block ?_
  refine W_loop ?_
  refine bindO_e h (fun v80 hv80 h => ?_)
  refine WL_cut (spec_resolve_L1_ok w X θ x1 s2 v80 n 0 hv80) ?_
  rcases v80 with i68 | _
  · rintro _ _ ⟨rfl, rfl⟩
    refine blockS_r ?_
    refine thenS_r ?_
    cases h
    exact ⟨[0], True, by kernel_rfl, trivial⟩
  · rintro _ _ ⟨rfl, rfl⟩
    refine blockS_y ?_
    refine thenS_n ?_
    refine W_seq ?_
    refine W_region ?_
    refine WO_step 1 [0] [4] True ⟨[(4, I (-1))], [.row .nod x1 false]⟩ (by kernel_rfl) trivial ?_
    refine WO_nil rfl ?_
    refine thenS_n ?_
    refine W_ret ?_
    cases h
    exact ⟨[0], True, by kernel_rfl, trivial⟩

/- spec.entries -/
def spec_entries_L1 (x1 : List Nod) (x59 : List Int) : Nat → (List Edt) → Int → Option ((List Edt))
| 0, _, _ => none
| n + 1, x81, i82 =>
 iteO (decide (i82 < ((x59.length : Nat) : Int)))
 (guardO (0 ≤ i82 ∧ i82 < ((x59.length : Nat) : Int)) <|
 bindO (spec_pathText n x1 (x59.getD i82.toNat 0)) fun s110 =>
 guardO (0 ≤ i82 ∧ i82 < ((x59.length : Nat) : Int)) <|
 guardO (0 ≤ (x59.getD i82.toNat 0) ∧ (x59.getD i82.toNat 0) < ((x1.length : Nat) : Int)) <|
 guardO (0 = 0 ∧ x81.length = x81.length ∧ x81.length + (([(⟨0, s110, (x1.getD ((x59.getD i82.toNat 0).toNat) dnod).value⟩ : Edt)].drop 0).take ([(⟨0, s110, (x1.getD ((x59.getD i82.toNat 0).toNat) dnod).value⟩ : Edt)].length)).length ≤ 1099511627776) <|
 spec_entries_L1 x1 x59 n (x81 ++ (([(⟨0, s110, (x1.getD ((x59.getD i82.toNat 0).toNat) dnod).value⟩ : Edt)].drop 0).take ([(⟨0, s110, (x1.getD ((x59.getD i82.toNat 0).toNat) dnod).value⟩ : Edt)].length))) (w64 (i82 + 1)))
 (some x81)

theorem spec_entries_L1_ok (w : World) (X : Nat → Prop) (θ : List Loc) (x1 : List Nod) (x59 : List Int) (x99 : (List Edt)) : ∀ (n : Nat) (x81 : List Edt) (i82 : Int), spec_entries_L1 x1 x59 n x81 i82 = some x99 → WL EE ⟨w, X, θ, 34, 1⟩ (subC [1, 1, 1, 0, 1, 4, 4] (bodyC Try.f25)) (fun (e : Exit) (s : St) => e = .exit 0 ∧ s = ⟨[(3, .one (.e (.sl 1 0 x99.length)))], [.row .nod x1 false, .row .edt x99 true]⟩) ⟨[(0, .one (.e (.sl 0 0 x1.length))), (3, .one (.e (.sl 1 0 x81.length))), (4, .one (.e (.sl 2 0 x59.length))), (5, I i82)], [.row .nod x1 false, .row .edt x81 true, .row .int x59 true]⟩ := by
  intro n
  induction n with
  | zero => intro _ _ h; exact none_e h
  | succ n ih =>
    intro x81 i82 h
    rw [spec_entries_L1] at h
    refine WL_round ?_
    refine W_seq ?_
    refine W_seq ?_
    refine W_region ?_
    refine WO_step 4 [0, 1, 2] [0, 3, 4, 5, 12] (True ∧ (True ∧ True)) ⟨[(0, .one (.e (.sl 0 0 x1.length))), (3, .one (.e (.sl 1 0 x81.length))), (4, .one (.e (.sl 2 0 x59.length))), (5, I i82), (12, B (decide (i82 < ((x59.length : Nat) : Int))))], [.row .nod x1 false, .row .edt x81 true, .row .int x59 true]⟩ (by kernel_rfl) ⟨trivial, trivial, trivial⟩ ?_
    refine WO_nil rfl ?_
    refine thenS_n ?_
    refine iteO_e h (fun hb102 h => W_true rfl hb102 ?_) (fun hb102 h => W_false rfl hb102 ?_)
    · refine W_sub [0, 1, 2] [0, 3, 4, 5] (st' := ⟨[(0, .one (.e (.sl 0 0 x1.length))), (3, .one (.e (.sl 1 0 x81.length))), (4, .one (.e (.sl 2 0 x59.length))), (5, I i82)], [.row .nod x1 false, .row .edt x81 true, .row .int x59 true]⟩) (by kernel_rfl) ?_
      refine W_skip ?_
      refine thenS_n ?_
      refine W_seq ?_
      refine W_block ?_
      refine guardO_e h (fun hg109 h => ?_)
      refine bindO_e h (fun s110 hc111 h => ?_)
      refine guardO_e h (fun hg112 h => ?_)
      refine guardO_e h (fun hg113 h => ?_)
      refine guardO_e h (fun hg114 h => ?_)
      refine W_cut (Q' := fun (e : Exit) (s : St) => e = .normal ∧ s = ⟨[(0, .one (.e (.sl 0 0 x1.length))), (3, .one (.e (.sl 1 0 ((x81 ++ (([(⟨0, s110, (x1.getD ((x59.getD i82.toNat 0).toNat) dnod).value⟩ : Edt)].drop 0).take ([(⟨0, s110, (x1.getD ((x59.getD i82.toNat 0).toNat) dnod).value⟩ : Edt)].length))).length)))), (4, .one (.e (.sl 2 0 x59.length))), (5, I i82)], [.row .nod x1 false, .row .edt (x81 ++ (([(⟨0, s110, (x1.getD ((x59.getD i82.toNat 0).toNat) dnod).value⟩ : Edt)].drop 0).take ([(⟨0, s110, (x1.getD ((x59.getD i82.toNat 0).toNat) dnod).value⟩ : Edt)].length))) true, .row .int x59 true]⟩) ?_ ?_
      · refine W_draw [1] false (by kernel_rfl) (by kernel_rfl) ?_
        refine WD_takeK [0, 1, 2, 3, 4, 5, 7, 8, 9, 10, 11, 12, 13, 14] [0, 3, 4, 5, 15, 16, 20, 29] [0, 3, 4, 5, 15, 16, 20, 29] (φ := ((0 ≤ i82 ∧ i82 < ((x59.length : Nat) : Int)) ∧ (0 ≤ i82 ∧ i82 < ((x59.length : Nat) : Int)) ∧ (True ∧ True ∧ ((0 ≤ i82 ∧ i82 < ((x59.length : Nat) : Int)) ∧ (0 ≤ i82 ∧ i82 < ((x59.length : Nat) : Int)) ∧ (True ∧ True ∧ ((0 ≤ (x59.getD i82.toNat 0) ∧ (x59.getD i82.toNat 0) < ((x1.length : Nat) : Int)) ∧ (0 ≤ (x59.getD i82.toNat 0) ∧ (x59.getD i82.toNat 0) < ((x1.length : Nat) : Int)) ∧ (True ∧ True ∧ True))))))) (ls' := #[true, true, true, true, true, true, false, true, true, true, true, true, true, true, true, false, false, false, false]) (Ts' := [(0, .one (.e (.sl 0 0 x1.length))), (3, .one (.e (.sl 1 0 x81.length))), (4, .one (.e (.sl 2 0 x59.length))), (5, I i82), (15, .one (.e (.sl 1 0 x81.length))), (16, .one (.e (.sl 0 0 x1.length))), (20, I (x59.getD i82.toNat 0)), (29, I ((x1.getD ((x59.getD i82.toNat 0).toNat) dnod).value))]) (st' := ⟨[(0, .one (.e (.sl 0 0 x1.length))), (3, .one (.e (.sl 1 0 x81.length))), (4, .one (.e (.sl 2 0 x59.length))), (5, I i82), (15, .one (.e (.sl 1 0 x81.length))), (16, .one (.e (.sl 0 0 x1.length))), (20, I (x59.getD i82.toNat 0)), (29, I ((x1.getD ((x59.getD i82.toNat 0).toNat) dnod).value))], [.row .nod x1 false, .row .edt x81 true, .row .int x59 true]⟩) (n2 := 5) (by kernel_rfl) ⟨hg109, hg109, trivial, trivial, hg112, hg112, trivial, trivial, hg113, hg113, trivial, trivial, trivial⟩ rfl ?_
        refine WD_all [6] (n := 4) (by kernel_rfl) rfl ?_
        refine WM_call [.ro 0] Try.f24 rfl rfl (by kernel_rfl) Try.func24 rfl (by kernel_rfl) (spec_pathText_ok n x1 (x59.getD i82.toNat 0) s110 hc111) (And.intro (And.intro rfl rfl) (trivial)) rfl (And.intro rfl (And.intro rfl (trivial))) ?_
        refine WD_takeK [15] [0, 3, 4, 5, 15, 30] [0, 3, 4, 5, 15, 30] (φ := True) (ls' := #[true, true, true, true, true, true, true, true, true, true, true, true, true, true, true, true, false, false, false]) (Ts' := [(0, .one (.e (.sl 0 0 x1.length))), (3, .one (.e (.sl 1 0 x81.length))), (4, .one (.e (.sl 2 0 x59.length))), (5, I i82), (15, .one (.e (.sl 1 0 x81.length))), (30, AGG [cI 0, cS s110, cI ((x1.getD ((x59.getD i82.toNat 0).toNat) dnod).value)])]) (st' := ⟨[(0, .one (.e (.sl 0 0 x1.length))), (3, .one (.e (.sl 1 0 x81.length))), (4, .one (.e (.sl 2 0 x59.length))), (5, I i82), (15, .one (.e (.sl 1 0 x81.length))), (30, AGG [cI 0, cS s110, cI ((x1.getD ((x59.getD i82.toNat 0).toNat) dnod).value)])], [.row .nod x1 false, .row .edt x81 true, .row .int x59 true]⟩) (n2 := 3) (by kernel_rfl) trivial rfl ?_
        refine WD_all [16] (n := 2) (by kernel_rfl) rfl ?_
        refine WM_op (φ := True) (v := .one (.e (.sl 3 0 ([(⟨0, s110, (x1.getD ((x59.getD i82.toNat 0).toNat) dnod).value⟩ : Edt)].length)))) (H' := [.row .nod x1 false, .row .edt x81 true, .row .int x59 true, .row .edt [(⟨0, s110, (x1.getD ((x59.getD i82.toNat 0).toNat) dnod).value⟩ : Edt)] true]) rfl rfl (by kernel_rfl) trivial rfl (And.intro rfl (And.intro rfl (trivial))) ?_
        refine WD_all [17] (n := 1) (by kernel_rfl) rfl ?_
        refine WM_op (φ := 0 = 0 ∧ x81.length = x81.length ∧ x81.length + (([(⟨0, s110, (x1.getD ((x59.getD i82.toNat 0).toNat) dnod).value⟩ : Edt)].drop 0).take ([(⟨0, s110, (x1.getD ((x59.getD i82.toNat 0).toNat) dnod).value⟩ : Edt)].length)).length ≤ 1099511627776) (v := .one (.e (.sl 4 0 ((x81 ++ (([(⟨0, s110, (x1.getD ((x59.getD i82.toNat 0).toNat) dnod).value⟩ : Edt)].drop 0).take ([(⟨0, s110, (x1.getD ((x59.getD i82.toNat 0).toNat) dnod).value⟩ : Edt)].length))).length)))) (H' := [.row .nod x1 false, .dead, .row .int x59 true, .row .edt [(⟨0, s110, (x1.getD ((x59.getD i82.toNat 0).toNat) dnod).value⟩ : Edt)] true, .row .edt (x81 ++ (([(⟨0, s110, (x1.getD ((x59.getD i82.toNat 0).toNat) dnod).value⟩ : Edt)].drop 0).take ([(⟨0, s110, (x1.getD ((x59.getD i82.toNat 0).toNat) dnod).value⟩ : Edt)].length))) true]) rfl rfl (by kernel_rfl) hg114 rfl (And.intro rfl (And.intro rfl (trivial))) ?_
        refine WD_all [18] (n := 0) (by kernel_rfl) rfl ?_
        refine WM_op (φ := True) (v := .one (.e (.sl 4 0 ((x81 ++ (([(⟨0, s110, (x1.getD ((x59.getD i82.toNat 0).toNat) dnod).value⟩ : Edt)].drop 0).take ([(⟨0, s110, (x1.getD ((x59.getD i82.toNat 0).toNat) dnod).value⟩ : Edt)].length))).length)))) (H' := [.row .nod x1 false, .dead, .row .int x59 true, .row .edt [(⟨0, s110, (x1.getD ((x59.getD i82.toNat 0).toNat) dnod).value⟩ : Edt)] true, .row .edt (x81 ++ (([(⟨0, s110, (x1.getD ((x59.getD i82.toNat 0).toNat) dnod).value⟩ : Edt)].drop 0).take ([(⟨0, s110, (x1.getD ((x59.getD i82.toNat 0).toNat) dnod).value⟩ : Edt)].length))) true]) rfl rfl (by kernel_rfl) trivial rfl (And.intro rfl (And.intro rfl (trivial))) ?_
        exact WD_done [0, 4, 2] [0, 3, 4, 5] (st' := ⟨[(0, .one (.e (.sl 0 0 x1.length))), (3, .one (.e (.sl 1 0 ((x81 ++ (([(⟨0, s110, (x1.getD ((x59.getD i82.toNat 0).toNat) dnod).value⟩ : Edt)].drop 0).take ([(⟨0, s110, (x1.getD ((x59.getD i82.toNat 0).toNat) dnod).value⟩ : Edt)].length))).length)))), (4, .one (.e (.sl 2 0 x59.length))), (5, I i82)], [.row .nod x1 false, .row .edt (x81 ++ (([(⟨0, s110, (x1.getD ((x59.getD i82.toNat 0).toNat) dnod).value⟩ : Edt)].drop 0).take ([(⟨0, s110, (x1.getD ((x59.getD i82.toNat 0).toNat) dnod).value⟩ : Edt)].length))) true, .row .int x59 true]⟩) (by kernel_rfl) (by kernel_rfl) (And.intro rfl rfl)
      · rintro _ _ ⟨rfl, rfl⟩
        refine blockS_n ?_
        refine thenS_n ?_
        refine W_region ?_
        refine WO_step 3 [0, 1, 2] [0, 3, 4, 5] (True ∧ True) ⟨[(0, .one (.e (.sl 0 0 x1.length))), (3, .one (.e (.sl 1 0 ((x81 ++ (([(⟨0, s110, (x1.getD ((x59.getD i82.toNat 0).toNat) dnod).value⟩ : Edt)].drop 0).take ([(⟨0, s110, (x1.getD ((x59.getD i82.toNat 0).toNat) dnod).value⟩ : Edt)].length))).length)))), (4, .one (.e (.sl 2 0 x59.length))), (5, I (w64 (i82 + 1)))], [.row .nod x1 false, .row .edt (x81 ++ (([(⟨0, s110, (x1.getD ((x59.getD i82.toNat 0).toNat) dnod).value⟩ : Edt)].drop 0).take ([(⟨0, s110, (x1.getD ((x59.getD i82.toNat 0).toNat) dnod).value⟩ : Edt)].length))) true, .row .int x59 true]⟩ (by kernel_rfl) ⟨trivial, trivial⟩ ?_
        refine WO_nil rfl ?_
        refine thenS_n ?_
        exact ih _ _ h
    · refine W_sub [0, 1] [3] (st' := ⟨[(3, .one (.e (.sl 1 0 x81.length)))], [.row .nod x1 false, .row .edt x81 true]⟩) (by kernel_rfl) ?_
      refine W_exit ?_
      refine thenS_e ?_
      refine thenS_e ?_
      cases h
      exact And.intro rfl rfl

def spec_entries (n : Nat) (x1 : List Nod) : Option ((List Edt)) :=
 bindO (spec_walk n x1 0) fun x59 =>
 bindO (spec_entries_L1 x1 x59 n ([] : List Edt) 0) fun x99 =>
 some x99

theorem spec_entries_ok (n : Nat) (x1 : List Nod) (x58 : List Edt) (h : spec_entries n x1 = some x58) : FOk EE 25 [.one (.e (.sl 0 0 x1.length))] [.row .nod x1 false] (.one (.e (.sl 1 0 x58.length))) [.row .nod x1 false, .row .edt x58 true] := by
  unfold spec_entries at h
  refine FOk_of_W 34 1 Try.func25 rfl rfl (Nat.le_of_ble_eq_true rfl) rfl (fun w X θ => ?_)
  refine W_seq ?_
  refine W_region ?_
  refine WO_step 1 [0] [0] True ⟨[(0, .one (.e (.sl 0 0 x1.length)))], [.row .nod x1 false]⟩ (by kernel_rfl) trivial ?_
  refine WO_nil rfl ?_
  refine thenS_n ?_
  refine W_seq ?_
  refine W_region ?_
  refine WO_step 2 [0, 1] [0, 3] True ⟨[(0, .one (.e (.sl 0 0 x1.length))), (3, .one (.e (.sl 1 0 (([] : List Edt).length))))], [.row .nod x1 false, .row .edt ([] : List Edt) true]⟩ (by kernel_rfl) trivial ?_
  refine WO_nil rfl ?_
  refine thenS_n ?_
  refine W_seq ?_
  refine W_region ?_
  refine WO_step 1 [0, 1] [0, 3, 7] True ⟨[(0, .one (.e (.sl 0 0 x1.length))), (3, .one (.e (.sl 1 0 (([] : List Edt).length)))), (7, .one (.e (.sl 0 0 x1.length)))], [.row .nod x1 false, .row .edt ([] : List Edt) true]⟩ (by kernel_rfl) trivial ?_
  refine bindO_e h (fun x59 hc60 h => ?_)
  refine WO_call [.ro 0] Try.f22 rfl rfl rfl (by kernel_rfl) Try.func22 rfl (by kernel_rfl) (spec_walk_ok n x1 0 x59 hc60) (And.intro (And.intro rfl rfl) (trivial)) rfl ?_
  refine WO_step 1 [0, 1, 2] [0, 3, 4] True ⟨[(0, .one (.e (.sl 0 0 x1.length))), (3, .one (.e (.sl 1 0 (([] : List Edt).length)))), (4, .one (.e (.sl 2 0 x59.length)))], [.row .nod x1 false, .row .edt ([] : List Edt) true, .row .int x59 true]⟩ (by kernel_rfl) trivial ?_
  refine WO_nil rfl ?_
  refine thenS_n ?_
  refine W_seq ?_
  refine W_seq ?_
  refine W_region ?_
  refine WO_step 1 [0, 1, 2] [0, 3, 4, 5] True ⟨[(0, .one (.e (.sl 0 0 x1.length))), (3, .one (.e (.sl 1 0 (([] : List Edt).length)))), (4, .one (.e (.sl 2 0 x59.length))), (5, I 0)], [.row .nod x1 false, .row .edt ([] : List Edt) true, .row .int x59 true]⟩ (by kernel_rfl) trivial ?_
  refine WO_nil rfl ?_
  refine thenS_n ?_
  refine W_block ?_
  refine W_loop ?_
  refine bindO_e h (fun x99 hx99 h => ?_)
  refine WL_cut (spec_entries_L1_ok w X θ x1 x59 x99 n ([] : List Edt) 0 hx99) ?_
  rintro _ _ ⟨rfl, rfl⟩
  refine blockS_y ?_
  refine thenS_n ?_
  refine W_seq ?_
  refine W_region ?_
  refine WO_step 2 [0, 1] [2] True ⟨[(2, .one (.e (.sl 1 0 x99.length)))], [.row .nod x1 false, .row .edt x99 true]⟩ (by kernel_rfl) trivial ?_
  refine WO_nil rfl ?_
  refine thenS_n ?_
  refine W_ret ?_
  cases h
  exact ⟨[0, 1], True, by kernel_rfl, trivial⟩

/- spec.EditsBetween -/
def spec_EditsBetween_L1 (x1 : List Nod) (x2 : List Nod) (x296 : List Int) : Nat → (List Edt) → Int → Option ((List Edt))
| 0, _, _ => none
| n + 1, x356, i357 =>
 iteO (decide (i357 < ((x296.length : Nat) : Int)))
 (guardO (0 ≤ i357 ∧ i357 < ((x296.length : Nat) : Int)) <|
 bindO (spec_pathText n x1 (x296.getD i357.toNat 0)) fun s442 =>
 bindO (spec_resolve n x2 s442) fun i444 =>
 bindO (iteO (decide (i444 < 0))
 (guardO (0 ≤ (x296.getD i357.toNat 0) ∧ (x296.getD i357.toNat 0) < ((x1.length : Nat) : Int)) <|
 bindO (spec_pathText n x1 ((x1.getD ((x296.getD i357.toNat 0).toNat) dnod).parent)) fun s456 =>
 bindO (spec_resolve n x2 s456) fun i458 =>
 some (decide (0 ≤ i458)))
 (some false)) fun b452 =>
 bindO (iteO b452
 (bindO (spec_pathText n x1 (x296.getD i357.toNat 0)) fun s467 =>
 guardO (0 = 0 ∧ x356.length = x356.length ∧ x356.length + (([(⟨1, s467, 0⟩ : Edt)].drop 0).take ([(⟨1, s467, 0⟩ : Edt)].length)).length ≤ 1099511627776) <|
 some (x356 ++ (([(⟨1, s467, 0⟩ : Edt)].drop 0).take ([(⟨1, s467, 0⟩ : Edt)].length))))
 (some x356)) fun x464 =>
 spec_EditsBetween_L1 x1 x2 x296 n x464 (w64 (i357 + 1)))
 (some x356)

theorem spec_EditsBetween_L1_ok (w : World) (X : Nat → Prop) (θ : List Loc) (x1 : List Nod) (x2 : List Nod) (x296 : List Int) (x412 : (List Edt)) : ∀ (n : Nat) (x356 : List Edt) (i357 : Int), spec_EditsBetween_L1 x1 x2 x296 n x356 i357 = some x412 → WL EE ⟨w, X, θ, 96, 2⟩ (subC [1, 1, 1, 1, 0, 1, 4, 4] (bodyC Try.f7)) (fun (e : Exit) (s : St) => e = .exit 0 ∧ s = ⟨[(0, .one (.e (.sl 0 0 x1.length))), (1, .one (.e (.sl 1 0 x2.length))), (5, .one (.e (.sl 2 0 x412.length)))], [.row .nod x1 false, .row .nod x2 false, .row .edt x412 true]⟩) ⟨[(0, .one (.e (.sl 0 0 x1.length))), (1, .one (.e (.sl 1 0 x2.length))), (5, .one (.e (.sl 2 0 x356.length))), (6, .one (.e (.sl 3 0 x296.length))), (7, I i357)], [.row .nod x1 false, .row .nod x2 false, .row .edt x356 true, .row .int x296 true]⟩ := by
  intro n
  induction n with
  | zero => intro _ _ h; exact none_e h
  | succ n ih =>
    intro x356 i357 h
    rw [spec_EditsBetween_L1] at h
    refine WL_round ?_
    refine W_seq ?_
    refine W_seq ?_
    refine W_region ?_
    refine WO_step 4 [0, 1, 2, 3] [0, 1, 5, 6, 7, 26] (True ∧ (True ∧ True)) ⟨[(0, .one (.e (.sl 0 0 x1.length))), (1, .one (.e (.sl 1 0 x2.length))), (5, .one (.e (.sl 2 0 x356.length))), (6, .one (.e (.sl 3 0 x296.length))), (7, I i357), (26, B (decide (i357 < ((x296.length : Nat) : Int))))], [.row .nod x1 false, .row .nod x2 false, .row .edt x356 true, .row .int x296 true]⟩ (by kernel_rfl) ⟨trivial, trivial, trivial⟩ ?_
    refine WO_nil rfl ?_
    refine thenS_n ?_
    refine iteO_e h (fun hb415 h => W_true rfl hb415 ?_) (fun hb415 h => W_false rfl hb415 ?_)
    · refine W_sub [0, 1, 2, 3] [0, 1, 5, 6, 7] (st' := ⟨[(0, .one (.e (.sl 0 0 x1.length))), (1, .one (.e (.sl 1 0 x2.length))), (5, .one (.e (.sl 2 0 x356.length))), (6, .one (.e (.sl 3 0 x296.length))), (7, I i357)], [.row .nod x1 false, .row .nod x2 false, .row .edt x356 true, .row .int x296 true]⟩) (by kernel_rfl) ?_
      refine W_skip ?_
      refine thenS_n ?_
      refine W_seq ?_
      refine W_block ?_
      refine W_seq ?_
      refine W_region ?_
      refine guardO_e h (fun hg441 h => ?_)
      refine WO_step 5 [0, 1, 2, 3] [0, 1, 5, 6, 7, 8] ((0 ≤ i357 ∧ i357 < ((x296.length : Nat) : Int)) ∧ (True ∧ True)) ⟨[(0, .one (.e (.sl 0 0 x1.length))), (1, .one (.e (.sl 1 0 x2.length))), (5, .one (.e (.sl 2 0 x356.length))), (6, .one (.e (.sl 3 0 x296.length))), (7, I i357), (8, I (x296.getD i357.toNat 0))], [.row .nod x1 false, .row .nod x2 false, .row .edt x356 true, .row .int x296 true]⟩ (by kernel_rfl) ⟨hg441, trivial, trivial⟩ ?_
      refine WO_nil rfl ?_
      refine thenS_n ?_
      refine W_seq ?_
      refine W_region ?_
      refine WO_step 3 [0, 1, 2, 3] [0, 1, 5, 6, 7, 8, 33, 34, 35] True ⟨[(0, .one (.e (.sl 0 0 x1.length))), (1, .one (.e (.sl 1 0 x2.length))), (5, .one (.e (.sl 2 0 x356.length))), (6, .one (.e (.sl 3 0 x296.length))), (7, I i357), (8, I (x296.getD i357.toNat 0)), (33, .one (.e (.sl 1 0 x2.length))), (34, .one (.e (.sl 0 0 x1.length))), (35, I (x296.getD i357.toNat 0))], [.row .nod x1 false, .row .nod x2 false, .row .edt x356 true, .row .int x296 true]⟩ (by kernel_rfl) trivial ?_
      refine bindO_e h (fun s442 hc443 h => ?_)
      refine WO_call [.ro 0] Try.f24 rfl rfl rfl (by kernel_rfl) Try.func24 rfl (by kernel_rfl) (spec_pathText_ok n x1 (x296.getD i357.toNat 0) s442 hc443) (And.intro (And.intro rfl rfl) (trivial)) rfl ?_
      refine WO_sub [0, 1, 2, 3] [0, 1, 5, 6, 7, 8, 33, 36] (st' := ⟨[(0, .one (.e (.sl 0 0 x1.length))), (1, .one (.e (.sl 1 0 x2.length))), (5, .one (.e (.sl 2 0 x356.length))), (6, .one (.e (.sl 3 0 x296.length))), (7, I i357), (8, I (x296.getD i357.toNat 0)), (33, .one (.e (.sl 1 0 x2.length))), (36, S s442)], [.row .nod x1 false, .row .nod x2 false, .row .edt x356 true, .row .int x296 true]⟩) (by kernel_rfl) ?_
      refine bindO_e h (fun i444 hc445 h => ?_)
      refine WO_call [.ro 1] Try.f23 rfl rfl rfl (by kernel_rfl) Try.func23 rfl (by kernel_rfl) (spec_resolve_ok n x2 s442 i444 hc445) (And.intro (And.intro rfl rfl) (trivial)) rfl ?_
      refine WO_step 2 [0, 1, 2, 3] [0, 1, 5, 6, 7, 8, 39] (True ∧ True) ⟨[(0, .one (.e (.sl 0 0 x1.length))), (1, .one (.e (.sl 1 0 x2.length))), (5, .one (.e (.sl 2 0 x356.length))), (6, .one (.e (.sl 3 0 x296.length))), (7, I i357), (8, I (x296.getD i357.toNat 0)), (39, B (decide (i444 < 0)))], [.row .nod x1 false, .row .nod x2 false, .row .edt x356 true, .row .int x296 true]⟩ (by kernel_rfl) ⟨trivial, trivial⟩ ?_
      refine bindO_e h (fun b452 hv453 h => ?_)
      refine WO_thru ⟨[(0, .one (.e (.sl 0 0 x1.length))), (1, .one (.e (.sl 1 0 x2.length))), (5, .one (.e (.sl 2 0 x356.length))), (6, .one (.e (.sl 3 0 x296.length))), (7, I i357), (8, I (x296.getD i357.toNat 0)), (50, B b452)], [.row .nod x1 false, .row .nod x2 false, .row .edt x356 true, .row .int x296 true]⟩ ?_ ?_
      · refine iteO_e hv453 (fun hb454 hv453 => WO_known 39 true rfl hb454 ?_) (fun hb454 hv453 => WO_known 39 false rfl hb454 ?_)
        · refine guardO_e hv453 (fun hg455 hv453 => ?_)
          refine WO_step 7 [0, 1, 2, 3] [0, 1, 5, 6, 7, 8, 39, 40, 41, 46] ((0 ≤ (x296.getD i357.toNat 0) ∧ (x296.getD i357.toNat 0) < ((x1.length : Nat) : Int)) ∧ (True ∧ True)) ⟨[(0, .one (.e (.sl 0 0 x1.length))), (1, .one (.e (.sl 1 0 x2.length))), (5, .one (.e (.sl 2 0 x356.length))), (6, .one (.e (.sl 3 0 x296.length))), (7, I i357), (8, I (x296.getD i357.toNat 0)), (39, B true), (40, .one (.e (.sl 1 0 x2.length))), (41, .one (.e (.sl 0 0 x1.length))), (46, I ((x1.getD ((x296.getD i357.toNat 0).toNat) dnod).parent))], [.row .nod x1 false, .row .nod x2 false, .row .edt x356 true, .row .int x296 true]⟩ (by kernel_rfl) ⟨hg455, trivial, trivial⟩ ?_
          refine bindO_e hv453 (fun s456 hc457 hv453 => ?_)
          refine WO_call [.ro 0] Try.f24 rfl rfl rfl (by kernel_rfl) Try.func24 rfl (by kernel_rfl) (spec_pathText_ok n x1 ((x1.getD ((x296.getD i357.toNat 0).toNat) dnod).parent) s456 hc457) (And.intro (And.intro rfl rfl) (trivial)) rfl ?_
          refine WO_sub [0, 1, 2, 3] [0, 1, 5, 6, 7, 8, 39, 40, 47] (st' := ⟨[(0, .one (.e (.sl 0 0 x1.length))), (1, .one (.e (.sl 1 0 x2.length))), (5, .one (.e (.sl 2 0 x356.length))), (6, .one (.e (.sl 3 0 x296.length))), (7, I i357), (8, I (x296.getD i357.toNat 0)), (39, B true), (40, .one (.e (.sl 1 0 x2.length))), (47, S s456)], [.row .nod x1 false, .row .nod x2 false, .row .edt x356 true, .row .int x296 true]⟩) (by kernel_rfl) ?_
          refine bindO_e hv453 (fun i458 hc459 hv453 => ?_)
          refine WO_call [.ro 1] Try.f23 rfl rfl rfl (by kernel_rfl) Try.func23 rfl (by kernel_rfl) (spec_resolve_ok n x2 s456 i458 hc459) (And.intro (And.intro rfl rfl) (trivial)) rfl ?_
          refine WO_step 2 [0, 1, 2, 3] [0, 1, 5, 6, 7, 8, 50] (True ∧ True) ⟨[(0, .one (.e (.sl 0 0 x1.length))), (1, .one (.e (.sl 1 0 x2.length))), (5, .one (.e (.sl 2 0 x356.length))), (6, .one (.e (.sl 3 0 x296.length))), (7, I i357), (8, I (x296.getD i357.toNat 0)), (50, B (decide (0 ≤ i458)))], [.row .nod x1 false, .row .nod x2 false, .row .edt x356 true, .row .int x296 true]⟩ (by kernel_rfl) ⟨trivial, trivial⟩ ?_
          cases hv453
          exact WO_nil rfl ⟨rfl, rfl⟩
        · refine WO_step 11 [0, 1, 2, 3] [0, 1, 5, 6, 7, 8, 50] True ⟨[(0, .one (.e (.sl 0 0 x1.length))), (1, .one (.e (.sl 1 0 x2.length))), (5, .one (.e (.sl 2 0 x356.length))), (6, .one (.e (.sl 3 0 x296.length))), (7, I i357), (8, I (x296.getD i357.toNat 0)), (50, B false)], [.row .nod x1 false, .row .nod x2 false, .row .edt x356 true, .row .int x296 true]⟩ (by kernel_rfl) trivial ?_
          cases hv453
          exact WO_nil rfl ⟨rfl, rfl⟩
      · refine thenS_n ?_
        refine bindO_e h (fun x464 hx464 h => ?_)
        refine W_cut (Q' := fun (e : Exit) (s : St) => e = .normal ∧ s = ⟨[(0, .one (.e (.sl 0 0 x1.length))), (1, .one (.e (.sl 1 0 x2.length))), (5, .one (.e (.sl 2 0 x464.length))), (6, .one (.e (.sl 3 0 x296.length))), (7, I i357)], [.row .nod x1 false, .row .nod x2 false, .row .edt x464 true, .row .int x296 true]⟩) ?_ ?_
        · refine iteO_e hx464 (fun hb466 hx464 => W_true rfl hb466 ?_) (fun hb466 hx464 => W_false rfl hb466 ?_)
          · refine W_region ?_
            refine WO_step 3 [0, 1, 3, 2] [0, 1, 6, 7, 51, 52, 53] True ⟨[(0, .one (.e (.sl 0 0 x1.length))), (1, .one (.e (.sl 1 0 x2.length))), (6, .one (.e (.sl 2 0 x296.length))), (7, I i357), (51, .one (.e (.sl 3 0 x356.length))), (52, .one (.e (.sl 0 0 x1.length))), (53, I (x296.getD i357.toNat 0))], [.row .nod x1 false, .row .nod x2 false, .row .int x296 true, .row .edt x356 true]⟩ (by kernel_rfl) trivial ?_
            refine bindO_e hx464 (fun s467 hc468 hx464 => ?_)
            refine WO_call [.ro 0] Try.f24 rfl rfl rfl (by kernel_rfl) Try.func24 rfl (by kernel_rfl) (spec_pathText_ok n x1 (x296.getD i357.toNat 0) s467 hc468) (And.intro (And.intro rfl rfl) (trivial)) rfl ?_
            refine guardO_e hx464 (fun hg469 hx464 => ?_)
            refine WO_step 4 [0, 1, 5, 2] [0, 1, 5, 6, 7] ((0 = 0 ∧ x356.length = x356.length ∧ x356.length + (([(⟨1, s467, 0⟩ : Edt)].drop 0).take ([(⟨1, s467, 0⟩ : Edt)].length)).length ≤ 1099511627776) ∧ True) ⟨[(0, .one (.e (.sl 0 0 x1.length))), (1, .one (.e (.sl 1 0 x2.length))), (5, .one (.e (.sl 2 0 ((x356 ++ (([(⟨1, s467, 0⟩ : Edt)].drop 0).take ([(⟨1, s467, 0⟩ : Edt)].length))).length)))), (6, .one (.e (.sl 3 0 x296.length))), (7, I i357)], [.row .nod x1 false, .row .nod x2 false, .row .edt (x356 ++ (([(⟨1, s467, 0⟩ : Edt)].drop 0).take ([(⟨1, s467, 0⟩ : Edt)].length))) true, .row .int x296 true]⟩ (by kernel_rfl) ⟨hg469, trivial⟩ ?_
            refine WO_nil rfl ?_
            cases hx464
            exact And.intro rfl rfl
          · refine W_sub [0, 1, 2, 3] [0, 1, 5, 6, 7] (st' := ⟨[(0, .one (.e (.sl 0 0 x1.length))), (1, .one (.e (.sl 1 0 x2.length))), (5, .one (.e (.sl 2 0 x356.length))), (6, .one (.e (.sl 3 0 x296.length))), (7, I i357)], [.row .nod x1 false, .row .nod x2 false, .row .edt x356 true, .row .int x296 true]⟩) (by kernel_rfl) ?_
            refine W_skip ?_
            cases hx464
            exact And.intro rfl rfl
        · rintro _ _ ⟨rfl, rfl⟩
          refine blockS_n ?_
          refine thenS_n ?_
          refine W_region ?_
          refine WO_step 3 [0, 1, 2, 3] [0, 1, 5, 6, 7] (True ∧ True) ⟨[(0, .one (.e (.sl 0 0 x1.length))), (1, .one (.e (.sl 1 0 x2.length))), (5, .one (.e (.sl 2 0 x464.length))), (6, .one (.e (.sl 3 0 x296.length))), (7, I (w64 (i357 + 1)))], [.row .nod x1 false, .row .nod x2 false, .row .edt x464 true, .row .int x296 true]⟩ (by kernel_rfl) ⟨trivial, trivial⟩ ?_
          refine WO_nil rfl ?_
          refine thenS_n ?_
          exact ih _ _ h
    · refine W_sub [0, 1, 2] [0, 1, 5] (st' := ⟨[(0, .one (.e (.sl 0 0 x1.length))), (1, .one (.e (.sl 1 0 x2.length))), (5, .one (.e (.sl 2 0 x356.length)))], [.row .nod x1 false, .row .nod x2 false, .row .edt x356 true]⟩) (by kernel_rfl) ?_
      refine W_exit ?_
      refine thenS_e ?_
      refine thenS_e ?_
      cases h
      exact And.intro rfl rfl

def spec_EditsBetween_L2 (x1 : List Nod) (x471 : List Edt) (x2 : List Nod) : Nat → (List Edt) → Int → Option ((List Edt))
| 0, _, _ => none
| n + 1, x507, i508 =>
 iteO (decide (i508 < ((x471.length : Nat) : Int)))
 (guardO (0 ≤ i508 ∧ i508 < ((x471.length : Nat) : Int)) <|
 bindO (spec_resolve n x1 ((x471.getD i508.toNat dedt).path)) fun i557 =>
 bindO (iteO (decide (i557 < 0))
 (some true)
 (guardO (0 ≤ i557 ∧ i557 < ((x1.length : Nat) : Int)) <|
 guardO (0 ≤ i508 ∧ i508 < ((x471.length : Nat) : Int)) <|
 some (!decide (((x1.getD i557.toNat dnod).value) = ((x471.getD i508.toNat dedt).value))))) fun b562 =>
 bindO (iteO b562
 (guardO (0 ≤ i508 ∧ i508 < ((x471.length : Nat) : Int)) <|
 guardO (0 = 0 ∧ x507.length = x507.length ∧ x507.length + (([(⟨(x471.getD i508.toNat dedt).kind, (x471.getD i508.toNat dedt).path, (x471.getD i508.toNat dedt).value⟩ : Edt)].drop 0).take ([(⟨(x471.getD i508.toNat dedt).kind, (x471.getD i508.toNat dedt).path, (x471.getD i508.toNat dedt).value⟩ : Edt)].length)).length ≤ 1099511627776) <|
 some (x507 ++ (([(⟨(x471.getD i508.toNat dedt).kind, (x471.getD i508.toNat dedt).path, (x471.getD i508.toNat dedt).value⟩ : Edt)].drop 0).take ([(⟨(x471.getD i508.toNat dedt).kind, (x471.getD i508.toNat dedt).path, (x471.getD i508.toNat dedt).value⟩ : Edt)].length))))
 (some x507)) fun x567 =>
 spec_EditsBetween_L2 x1 x471 x2 n x567 (w64 (i508 + 1)))
 (some x507)

theorem spec_EditsBetween_L2_ok (w : World) (X : Nat → Prop) (θ : List Loc) (x1 : List Nod) (x471 : List Edt) (x2 : List Nod) (x539 : (List Edt)) : ∀ (n : Nat) (x507 : List Edt) (i508 : Int), spec_EditsBetween_L2 x1 x471 x2 n x507 i508 = some x539 → WL EE ⟨w, X, θ, 96, 2⟩ (subC [1, 1, 1, 1, 1, 1, 0, 1, 4, 4] (bodyC Try.f7)) (fun (e : Exit) (s : St) => e = .exit 2 ∧ s = ⟨[(5, .one (.e (.sl 2 0 x539.length)))], [.row .nod x1 false, .row .nod x2 false, .row .edt x539 true]⟩) ⟨[(0, .one (.e (.sl 0 0 x1.length))), (5, .one (.e (.sl 2 0 x507.length))), (9, .one (.e (.sl 3 0 x471.length))), (10, I i508)], [.row .nod x1 false, .row .nod x2 false, .row .edt x507 true, .row .edt x471 true]⟩ := by
  intro n
  induction n with
  | zero => intro _ _ h; exact none_e h
  | succ n ih =>
    intro x507 i508 h
    rw [spec_EditsBetween_L2] at h
    refine WL_round ?_
    refine W_seq ?_
    refine W_seq ?_
    refine W_region ?_
    refine WO_step 4 [0, 1, 2, 3] [0, 5, 9, 10, 63] (True ∧ (True ∧ True)) ⟨[(0, .one (.e (.sl 0 0 x1.length))), (5, .one (.e (.sl 2 0 x507.length))), (9, .one (.e (.sl 3 0 x471.length))), (10, I i508), (63, B (decide (i508 < ((x471.length : Nat) : Int))))], [.row .nod x1 false, .row .nod x2 false, .row .edt x507 true, .row .edt x471 true]⟩ (by kernel_rfl) ⟨trivial, trivial, trivial⟩ ?_
    refine WO_nil rfl ?_
    refine thenS_n ?_
    refine iteO_e h (fun hb542 h => W_true rfl hb542 ?_) (fun hb542 h => W_false rfl hb542 ?_)
    · refine W_sub [0, 1, 2, 3] [0, 5, 9, 10] (st' := ⟨[(0, .one (.e (.sl 0 0 x1.length))), (5, .one (.e (.sl 2 0 x507.length))), (9, .one (.e (.sl 3 0 x471.length))), (10, I i508)], [.row .nod x1 false, .row .nod x2 false, .row .edt x507 true, .row .edt x471 true]⟩) (by kernel_rfl) ?_
      refine W_skip ?_
      refine thenS_n ?_
      refine W_seq ?_
      refine W_block ?_
      refine W_seq ?_
      refine W_region ?_
      refine guardO_e h (fun hg556 h => ?_)
      refine WO_step 6 [0, 1, 2, 3] [0, 5, 9, 10, 66, 71] ((0 ≤ i508 ∧ i508 < ((x471.length : Nat) : Int)) ∧ (True ∧ True)) ⟨[(0, .one (.e (.sl 0 0 x1.length))), (5, .one (.e (.sl 2 0 x507.length))), (9, .one (.e (.sl 3 0 x471.length))), (10, I i508), (66, .one (.e (.sl 0 0 x1.length))), (71, S ((x471.getD i508.toNat dedt).path))], [.row .nod x1 false, .row .nod x2 false, .row .edt x507 true, .row .edt x471 true]⟩ (by kernel_rfl) ⟨hg556, trivial, trivial⟩ ?_
      refine bindO_e h (fun i557 hc558 h => ?_)
      refine WO_call [.ro 0] Try.f23 rfl rfl rfl (by kernel_rfl) Try.func23 rfl (by kernel_rfl) (spec_resolve_ok n x1 ((x471.getD i508.toNat dedt).path) i557 hc558) (And.intro (And.intro rfl rfl) (trivial)) rfl ?_
      refine WO_step 1 [0, 1, 2, 3] [0, 5, 9, 10, 11] True ⟨[(0, .one (.e (.sl 0 0 x1.length))), (5, .one (.e (.sl 2 0 x507.length))), (9, .one (.e (.sl 3 0 x471.length))), (10, I i508), (11, I i557)], [.row .nod x1 false, .row .nod x2 false, .row .edt x507 true, .row .edt x471 true]⟩ (by kernel_rfl) trivial ?_
      refine WO_nil rfl ?_
      refine thenS_n ?_
      refine W_seq ?_
      refine bindO_e h (fun b562 hv563 h => ?_)
      refine W_cut (Q' := fun (e : Exit) (s : St) => e = .normal ∧ s = ⟨[(0, .one (.e (.sl 0 0 x1.length))), (5, .one (.e (.sl 2 0 x507.length))), (9, .one (.e (.sl 3 0 x471.length))), (10, I i508), (87, B b562)], [.row .nod x1 false, .row .nod x2 false, .row .edt x507 true, .row .edt x471 true]⟩) ?_ ?_
      · refine iteO_e hv563 (fun hb559 hv563 => ?_) (fun hb559 hv563 => ?_)
        · refine W_draw [] true (by kernel_rfl) (by kernel_rfl) ?_
          refine WD_takeK [0, 1, 2] [0, 5, 9, 10, 11, 75] [0, 5, 9, 10, 11, 75] (φ := (True ∧ True ∧ True)) (ls' := #[true, true, true, false, false, false, false, false, false, false, false, false, false, false, false]) (Ts' := [(0, .one (.e (.sl 0 0 x1.length))), (5, .one (.e (.sl 2 0 x507.length))), (9, .one (.e (.sl 3 0 x471.length))), (10, I i508), (11, I i557), (75, B (decide (i557 < 0)))]) (st' := ⟨[(0, .one (.e (.sl 0 0 x1.length))), (5, .one (.e (.sl 2 0 x507.length))), (9, .one (.e (.sl 3 0 x471.length))), (10, I i508), (11, I i557), (75, B (decide (i557 < 0)))], [.row .nod x1 false, .row .nod x2 false, .row .edt x507 true, .row .edt x471 true]⟩) (n2 := 12) (by kernel_rfl) ⟨trivial, trivial, trivial⟩ rfl ?_
          refine WD_known 75 true rfl rfl hb559 ?_
          refine WD_takeK [3, 4, 5, 6, 7, 8, 9, 10, 11, 12, 13, 14] [0, 5, 9, 10, 87] [0, 5, 9, 10, 87] (φ := True) (ls' := #[true, true, true, true, true, true, true, true, true, true, true, true, true, true, true]) (Ts' := [(0, .one (.e (.sl 0 0 x1.length))), (5, .one (.e (.sl 2 0 x507.length))), (9, .one (.e (.sl 3 0 x471.length))), (10, I i508), (87, B true)]) (st' := ⟨[(0, .one (.e (.sl 0 0 x1.length))), (5, .one (.e (.sl 2 0 x507.length))), (9, .one (.e (.sl 3 0 x471.length))), (10, I i508), (87, B true)], [.row .nod x1 false, .row .nod x2 false, .row .edt x507 true, .row .edt x471 true]⟩) (n2 := 0) (by kernel_rfl) trivial rfl ?_
          exact WD_done [0, 1, 2, 3] [0, 5, 9, 10, 87] (st' := ⟨[(0, .one (.e (.sl 0 0 x1.length))), (5, .one (.e (.sl 2 0 x507.length))), (9, .one (.e (.sl 3 0 x471.length))), (10, I i508), (87, B true)], [.row .nod x1 false, .row .nod x2 false, .row .edt x507 true, .row .edt x471 true]⟩) (by kernel_rfl) (by kernel_rfl) (And.intro rfl (by cases hv563; rfl))
        · refine guardO_e hv563 (fun hg560 hv563 => ?_)
          refine guardO_e hv563 (fun hg561 hv563 => ?_)
          refine W_draw [] true (by kernel_rfl) (by kernel_rfl) ?_
          refine WD_takeK [0, 1, 2] [0, 5, 9, 10, 11, 75] [0, 5, 9, 10, 11, 75] (φ := (True ∧ True ∧ True)) (ls' := #[true, true, true, false, false, false, false, false, false, false, false, false, false, false, false]) (Ts' := [(0, .one (.e (.sl 0 0 x1.length))), (5, .one (.e (.sl 2 0 x507.length))), (9, .one (.e (.sl 3 0 x471.length))), (10, I i508), (11, I i557), (75, B (decide (i557 < 0)))]) (st' := ⟨[(0, .one (.e (.sl 0 0 x1.length))), (5, .one (.e (.sl 2 0 x507.length))), (9, .one (.e (.sl 3 0 x471.length))), (10, I i508), (11, I i557), (75, B (decide (i557 < 0)))], [.row .nod x1 false, .row .nod x2 false, .row .edt x507 true, .row .edt x471 true]⟩) (n2 := 12) (by kernel_rfl) ⟨trivial, trivial, trivial⟩ rfl ?_
          refine WD_known 75 false rfl rfl hb559 ?_
          refine WD_takeK [3, 4, 5, 6, 7, 8, 9, 10, 11, 12, 13, 14] [0, 5, 9, 10, 87] [0, 5, 9, 10, 87] (φ := ((0 ≤ i557 ∧ i557 < ((x1.length : Nat) : Int)) ∧ (0 ≤ i557 ∧ i557 < ((x1.length : Nat) : Int)) ∧ (True ∧ True ∧ ((0 ≤ i508 ∧ i508 < ((x471.length : Nat) : Int)) ∧ (0 ≤ i508 ∧ i508 < ((x471.length : Nat) : Int)) ∧ (True ∧ True ∧ (True ∧ True ∧ True)))))) (ls' := #[true, true, true, true, true, true, true, true, true, true, true, true, true, true, true]) (Ts' := [(0, .one (.e (.sl 0 0 x1.length))), (5, .one (.e (.sl 2 0 x507.length))), (9, .one (.e (.sl 3 0 x471.length))), (10, I i508), (87, B (!decide (((x1.getD i557.toNat dnod).value) = ((x471.getD i508.toNat dedt).value))))]) (st' := ⟨[(0, .one (.e (.sl 0 0 x1.length))), (5, .one (.e (.sl 2 0 x507.length))), (9, .one (.e (.sl 3 0 x471.length))), (10, I i508), (87, B (!decide (((x1.getD i557.toNat dnod).value) = ((x471.getD i508.toNat dedt).value))))], [.row .nod x1 false, .row .nod x2 false, .row .edt x507 true, .row .edt x471 true]⟩) (n2 := 0) (by kernel_rfl) ⟨hg560, hg560, trivial, trivial, hg561, hg561, trivial, trivial, trivial, trivial, trivial⟩ rfl ?_
          exact WD_done [0, 1, 2, 3] [0, 5, 9, 10, 87] (st' := ⟨[(0, .one (.e (.sl 0 0 x1.length))), (5, .one (.e (.sl 2 0 x507.length))), (9, .one (.e (.sl 3 0 x471.length))), (10, I i508), (87, B (!decide (((x1.getD i557.toNat dnod).value) = ((x471.getD i508.toNat dedt).value))))], [.row .nod x1 false, .row .nod x2 false, .row .edt x507 true, .row .edt x471 true]⟩) (by kernel_rfl) (by kernel_rfl) (And.intro rfl (by cases hv563; rfl))
      · rintro _ _ ⟨rfl, rfl⟩
        refine thenS_n ?_
        refine bindO_e h (fun x567 hx567 h => ?_)
        refine W_cut (Q' := fun (e : Exit) (s : St) => e = .normal ∧ s = ⟨[(0, .one (.e (.sl 0 0 x1.length))), (5, .one (.e (.sl 2 0 x567.length))), (9, .one (.e (.sl 3 0 x471.length))), (10, I i508)], [.row .nod x1 false, .row .nod x2 false, .row .edt x567 true, .row .edt x471 true]⟩) ?_ ?_
        · refine iteO_e hx567 (fun hb569 hx567 => W_true rfl hb569 ?_) (fun hb569 hx567 => W_false rfl hb569 ?_)
          · refine W_region ?_
            refine guardO_e hx567 (fun hg570 hx567 => ?_)
            refine guardO_e hx567 (fun hg571 hx567 => ?_)
            refine WO_step 8 [0, 1, 5, 3] [0, 5, 9, 10] ((0 ≤ i508 ∧ i508 < ((x471.length : Nat) : Int)) ∧ (True ∧ ((0 = 0 ∧ x507.length = x507.length ∧ x507.length + (([(⟨(x471.getD i508.toNat dedt).kind, (x471.getD i508.toNat dedt).path, (x471.getD i508.toNat dedt).value⟩ : Edt)].drop 0).take ([(⟨(x471.getD i508.toNat dedt).kind, (x471.getD i508.toNat dedt).path, (x471.getD i508.toNat dedt).value⟩ : Edt)].length)).length ≤ 1099511627776) ∧ True))) ⟨[(0, .one (.e (.sl 0 0 x1.length))), (5, .one (.e (.sl 2 0 ((x507 ++ (([(⟨(x471.getD i508.toNat dedt).kind, (x471.getD i508.toNat dedt).path, (x471.getD i508.toNat dedt).value⟩ : Edt)].drop 0).take ([(⟨(x471.getD i508.toNat dedt).kind, (x471.getD i508.toNat dedt).path, (x471.getD i508.toNat dedt).value⟩ : Edt)].length))).length)))), (9, .one (.e (.sl 3 0 x471.length))), (10, I i508)], [.row .nod x1 false, .row .nod x2 false, .row .edt (x507 ++ (([(⟨(x471.getD i508.toNat dedt).kind, (x471.getD i508.toNat dedt).path, (x471.getD i508.toNat dedt).value⟩ : Edt)].drop 0).take ([(⟨(x471.getD i508.toNat dedt).kind, (x471.getD i508.toNat dedt).path, (x471.getD i508.toNat dedt).value⟩ : Edt)].length))) true, .row .edt x471 true]⟩ (by kernel_rfl) ⟨hg570, trivial, hg571, trivial⟩ ?_
            refine WO_nil rfl ?_
            cases hx567
            exact And.intro rfl rfl
          · refine W_sub [0, 1, 2, 3] [0, 5, 9, 10] (st' := ⟨[(0, .one (.e (.sl 0 0 x1.length))), (5, .one (.e (.sl 2 0 x507.length))), (9, .one (.e (.sl 3 0 x471.length))), (10, I i508)], [.row .nod x1 false, .row .nod x2 false, .row .edt x507 true, .row .edt x471 true]⟩) (by kernel_rfl) ?_
            refine W_skip ?_
            cases hx567
            exact And.intro rfl rfl
        · rintro _ _ ⟨rfl, rfl⟩
          refine blockS_n ?_
          refine thenS_n ?_
          refine W_region ?_
          refine WO_step 3 [0, 1, 2, 3] [0, 5, 9, 10] (True ∧ True) ⟨[(0, .one (.e (.sl 0 0 x1.length))), (5, .one (.e (.sl 2 0 x567.length))), (9, .one (.e (.sl 3 0 x471.length))), (10, I (w64 (i508 + 1)))], [.row .nod x1 false, .row .nod x2 false, .row .edt x567 true, .row .edt x471 true]⟩ (by kernel_rfl) ⟨trivial, trivial⟩ ?_
          refine WO_nil rfl ?_
          refine thenS_n ?_
          exact ih _ _ h
    · refine W_sub [0, 1, 2] [5] (st' := ⟨[(5, .one (.e (.sl 2 0 x507.length)))], [.row .nod x1 false, .row .nod x2 false, .row .edt x507 true]⟩) (by kernel_rfl) ?_
      refine W_exit ?_
      refine thenS_e ?_
      refine thenS_e ?_
      cases h
      exact And.intro rfl rfl

def spec_EditsBetween (n : Nat) (x1 : List Nod) (x2 : List Nod) : Option ((List Edt)) :=
 bindO (spec_validTree n x1) fun b284 =>
 bindO (iteO (!b284)
 (some true)
 (bindO (spec_validTree n x2) fun b292 =>
 some (!b292))) fun b289 =>
 iteO b289
 (some ([] : List Edt))
 (bindO (spec_walk n x1 0) fun x296 =>
 bindO (spec_EditsBetween_L1 x1 x2 x296 n ([] : List Edt) 1) fun x412 =>
 bindO (spec_entries n x2) fun x471 =>
 bindO (spec_EditsBetween_L2 x1 x471 x2 n x412 0) fun x539 =>
 some x539)

theorem spec_EditsBetween_ok (n : Nat) (x1 : List Nod) (x2 : List Nod) (x283 : List Edt) (h : spec_EditsBetween n x1 x2 = some x283) : FOk EE 7 [.one (.e (.sl 0 0 x1.length)), .one (.e (.sl 1 0 x2.length))] [.row .nod x1 false, .row .nod x2 false] (.one (.e (.sl 2 0 x283.length))) [.row .nod x1 false, .row .nod x2 false, .row .edt x283 true] := by
  unfold spec_EditsBetween at h
  refine FOk_of_W 96 2 Try.func7 rfl rfl (Nat.le_of_ble_eq_true rfl) rfl (fun w X θ => ?_)
  refine W_seq ?_
  refine W_region ?_
  refine WO_step 1 [0, 1] [0, 1] True ⟨[(0, .one (.e (.sl 0 0 x1.length))), (1, .one (.e (.sl 1 0 x2.length)))], [.row .nod x1 false, .row .nod x2 false]⟩ (by kernel_rfl) trivial ?_
  refine WO_nil rfl ?_
  refine thenS_n ?_
  refine W_seq ?_
  refine W_region ?_
  refine WO_step 2 [0, 1, 2] [0, 1, 5] True ⟨[(0, .one (.e (.sl 0 0 x1.length))), (1, .one (.e (.sl 1 0 x2.length))), (5, .one (.e (.sl 2 0 (([] : List Edt).length))))], [.row .nod x1 false, .row .nod x2 false, .row .edt ([] : List Edt) true]⟩ (by kernel_rfl) trivial ?_
  refine WO_nil rfl ?_
  refine thenS_n ?_
  refine W_seq ?_
  refine W_seq ?_
  refine W_region ?_
  refine WO_step 1 [0, 1, 2] [0, 1, 5, 13] True ⟨[(0, .one (.e (.sl 0 0 x1.length))), (1, .one (.e (.sl 1 0 x2.length))), (5, .one (.e (.sl 2 0 (([] : List Edt).length)))), (13, .one (.e (.sl 0 0 x1.length)))], [.row .nod x1 false, .row .nod x2 false, .row .edt ([] : List Edt) true]⟩ (by kernel_rfl) trivial ?_
  refine bindO_e h (fun b284 hc285 h => ?_)
  refine WO_call [.ro 0] Try.f21 rfl rfl rfl (by kernel_rfl) Try.func21 rfl (by kernel_rfl) (spec_validTree_ok n x1 b284 hc285) (And.intro (And.intro rfl rfl) (trivial)) rfl ?_
  refine WO_step 2 [0, 1, 2] [0, 1, 5, 16] True ⟨[(0, .one (.e (.sl 0 0 x1.length))), (1, .one (.e (.sl 1 0 x2.length))), (5, .one (.e (.sl 2 0 (([] : List Edt).length)))), (16, B (!b284))], [.row .nod x1 false, .row .nod x2 false, .row .edt ([] : List Edt) true]⟩ (by kernel_rfl) trivial ?_
  refine bindO_e h (fun b289 hv290 h => ?_)
  refine WO_thru ⟨[(0, .one (.e (.sl 0 0 x1.length))), (1, .one (.e (.sl 1 0 x2.length))), (5, .one (.e (.sl 2 0 (([] : List Edt).length)))), (20, B b289)], [.row .nod x1 false, .row .nod x2 false, .row .edt ([] : List Edt) true]⟩ ?_ ?_
  · refine iteO_e hv290 (fun hb291 hv290 => WO_known 16 true rfl hb291 ?_) (fun hb291 hv290 => WO_known 16 false rfl hb291 ?_)
    · refine WO_step 4 [0, 1, 2] [0, 1, 5, 20] True ⟨[(0, .one (.e (.sl 0 0 x1.length))), (1, .one (.e (.sl 1 0 x2.length))), (5, .one (.e (.sl 2 0 (([] : List Edt).length)))), (20, B true)], [.row .nod x1 false, .row .nod x2 false, .row .edt ([] : List Edt) true]⟩ (by kernel_rfl) trivial ?_
      cases hv290
      exact WO_nil rfl ⟨rfl, rfl⟩
    · refine WO_step 1 [0, 1, 2] [0, 1, 5, 16, 17] True ⟨[(0, .one (.e (.sl 0 0 x1.length))), (1, .one (.e (.sl 1 0 x2.length))), (5, .one (.e (.sl 2 0 (([] : List Edt).length)))), (16, B false), (17, .one (.e (.sl 1 0 x2.length)))], [.row .nod x1 false, .row .nod x2 false, .row .edt ([] : List Edt) true]⟩ (by kernel_rfl) trivial ?_
      refine bindO_e hv290 (fun b292 hc293 hv290 => ?_)
      refine WO_call [.ro 1] Try.f21 rfl rfl rfl (by kernel_rfl) Try.func21 rfl (by kernel_rfl) (spec_validTree_ok n x2 b292 hc293) (And.intro (And.intro rfl rfl) (trivial)) rfl ?_
      refine WO_step 2 [0, 1, 2] [0, 1, 5, 20] True ⟨[(0, .one (.e (.sl 0 0 x1.length))), (1, .one (.e (.sl 1 0 x2.length))), (5, .one (.e (.sl 2 0 (([] : List Edt).length)))), (20, B (!b292))], [.row .nod x1 false, .row .nod x2 false, .row .edt ([] : List Edt) true]⟩ (by kernel_rfl) trivial ?_
      cases hv290
      exact WO_nil rfl ⟨rfl, rfl⟩
  · refine thenS_n ?_
    refine iteO_e h (fun hb295 h => W_true rfl hb295 ?_) (fun hb295 h => W_false rfl hb295 ?_)
    · refine W_seq ?_
      refine W_region ?_
      refine WO_step 1 [0, 1] [4] True ⟨[(4, .one (.e (.nsl)))], [.row .nod x1 false, .row .nod x2 false]⟩ (by kernel_rfl) trivial ?_
      refine WO_nilrow 4 .edt rfl ?_
      refine WO_sub [0, 1, 2] [4] (st' := ⟨[(4, .one (.e (.sl 2 0 (([] : List Edt).length))))], [.row .nod x1 false, .row .nod x2 false, .row .edt ([] : List Edt) true]⟩) (by kernel_rfl) ?_
      refine WO_nil rfl ?_
      refine thenS_n ?_
      refine W_ret ?_
      refine thenS_r ?_
      cases h
      exact ⟨[0, 1, 2], True, by kernel_rfl, trivial⟩
    · refine W_sub [0, 1, 2] [0, 1, 5] (st' := ⟨[(0, .one (.e (.sl 0 0 x1.length))), (1, .one (.e (.sl 1 0 x2.length))), (5, .one (.e (.sl 2 0 (([] : List Edt).length))))], [.row .nod x1 false, .row .nod x2 false, .row .edt ([] : List Edt) true]⟩) (by kernel_rfl) ?_
      refine W_skip ?_
      refine thenS_n ?_
      refine W_seq ?_
      refine W_region ?_
      refine WO_step 1 [0, 1, 2] [0, 1, 5, 21] True ⟨[(0, .one (.e (.sl 0 0 x1.length))), (1, .one (.e (.sl 1 0 x2.length))), (5, .one (.e (.sl 2 0 (([] : List Edt).length)))), (21, .one (.e (.sl 0 0 x1.length)))], [.row .nod x1 false, .row .nod x2 false, .row .edt ([] : List Edt) true]⟩ (by kernel_rfl) trivial ?_
      refine bindO_e h (fun x296 hc297 h => ?_)
      refine WO_call [.ro 0] Try.f22 rfl rfl rfl (by kernel_rfl) Try.func22 rfl (by kernel_rfl) (spec_walk_ok n x1 0 x296 hc297) (And.intro (And.intro rfl rfl) (trivial)) rfl ?_
      refine WO_step 1 [0, 1, 2, 3] [0, 1, 5, 6] True ⟨[(0, .one (.e (.sl 0 0 x1.length))), (1, .one (.e (.sl 1 0 x2.length))), (5, .one (.e (.sl 2 0 (([] : List Edt).length)))), (6, .one (.e (.sl 3 0 x296.length)))], [.row .nod x1 false, .row .nod x2 false, .row .edt ([] : List Edt) true, .row .int x296 true]⟩ (by kernel_rfl) trivial ?_
      refine WO_nil rfl ?_
      refine thenS_n ?_
      refine W_seq ?_
      refine W_seq ?_
      refine W_region ?_
      refine WO_step 1 [0, 1, 2, 3] [0, 1, 5, 6, 7] True ⟨[(0, .one (.e (.sl 0 0 x1.length))), (1, .one (.e (.sl 1 0 x2.length))), (5, .one (.e (.sl 2 0 (([] : List Edt).length)))), (6, .one (.e (.sl 3 0 x296.length))), (7, I 1)], [.row .nod x1 false, .row .nod x2 false, .row .edt ([] : List Edt) true, .row .int x296 true]⟩ (by kernel_rfl) trivial ?_
      refine WO_nil rfl ?_
      refine thenS_n ?_
      refine W_block ?_
      refine W_loop ?_
      refine bindO_e h (fun x412 hx412 h => ?_)
      refine WL_cut (spec_EditsBetween_L1_ok w X θ x1 x2 x296 x412 n ([] : List Edt) 1 hx412) ?_
      rintro _ _ ⟨rfl, rfl⟩
      refine blockS_y ?_
      refine thenS_n ?_
      refine W_seq ?_
      refine W_region ?_
      refine WO_step 1 [0, 1, 2] [0, 5, 58] True ⟨[(0, .one (.e (.sl 0 0 x1.length))), (5, .one (.e (.sl 2 0 x412.length))), (58, .one (.e (.sl 1 0 x2.length)))], [.row .nod x1 false, .row .nod x2 false, .row .edt x412 true]⟩ (by kernel_rfl) trivial ?_
      refine bindO_e h (fun x471 hc472 h => ?_)
      refine WO_call [.ro 1] Try.f25 rfl rfl rfl (by kernel_rfl) Try.func25 rfl (by kernel_rfl) (spec_entries_ok n x2 x471 hc472) (And.intro (And.intro rfl rfl) (trivial)) rfl ?_
      refine WO_step 1 [0, 1, 2, 3] [0, 5, 9] True ⟨[(0, .one (.e (.sl 0 0 x1.length))), (5, .one (.e (.sl 2 0 x412.length))), (9, .one (.e (.sl 3 0 x471.length)))], [.row .nod x1 false, .row .nod x2 false, .row .edt x412 true, .row .edt x471 true]⟩ (by kernel_rfl) trivial ?_
      refine WO_nil rfl ?_
      refine thenS_n ?_
      refine W_seq ?_
      refine W_seq ?_
      refine W_region ?_
      refine WO_step 1 [0, 1, 2, 3] [0, 5, 9, 10] True ⟨[(0, .one (.e (.sl 0 0 x1.length))), (5, .one (.e (.sl 2 0 x412.length))), (9, .one (.e (.sl 3 0 x471.length))), (10, I 0)], [.row .nod x1 false, .row .nod x2 false, .row .edt x412 true, .row .edt x471 true]⟩ (by kernel_rfl) trivial ?_
      refine WO_nil rfl ?_
      refine thenS_n ?_
      refine W_block ?_
      refine W_loop ?_
      refine bindO_e h (fun x539 hx539 h => ?_)
      refine WL_cut (spec_EditsBetween_L2_ok w X θ x1 x471 x2 x539 n x412 0 hx539) ?_
      rintro _ _ ⟨rfl, rfl⟩
      refine blockS_y ?_
      refine thenS_n ?_
      refine W_seq ?_
      refine W_region ?_
      refine WO_step 2 [0, 1, 2] [4] True ⟨[(4, .one (.e (.sl 2 0 x539.length)))], [.row .nod x1 false, .row .nod x2 false, .row .edt x539 true]⟩ (by kernel_rfl) trivial ?_
      refine WO_nil rfl ?_
      refine thenS_n ?_
      refine W_ret ?_
      cases h
      exact ⟨[0, 1, 2], True, by kernel_rfl, trivial⟩

/- laws.equalEdits -/
def laws_equalEdits_L1 (x1 : List Edt) (x2 : List Edt) : Nat → Int → Option ((Unit) ⊕ (Unit))
| 0, _ => none
| n + 1, i57 =>
 iteO (decide (i57 < ((x1.length : Nat) : Int)))
 (guardO (0 ≤ i57 ∧ i57 < ((x1.length : Nat) : Int)) <|
 guardO (0 ≤ i57 ∧ i57 < ((x2.length : Nat) : Int)) <|
 iteO (!((decide (((x1.getD i57.toNat dedt).kind) = ((x2.getD i57.toNat dedt).kind))) && ((decide (((x1.getD i57.toNat dedt).path) = ((x2.getD i57.toNat dedt).path))) && ((decide (((x1.getD i57.toNat dedt).value) = ((x2.getD i57.toNat dedt).value))) && true))))
 (some (.inl ()))
 (laws_equalEdits_L1 x1 x2 n (w64 (i57 + 1))))
 (some (.inr ()))

theorem laws_equalEdits_L1_ok (w : World) (X : Nat → Prop) (θ : List Loc) (x1 : List Edt) (x2 : List Edt) (v : (Unit) ⊕ (Unit)) : ∀ (n : Nat) (i57 : Int), laws_equalEdits_L1 x1 x2 n i57 = some v → WL EE ⟨w, X, θ, 26, 2⟩ (subC [1, 1, 0, 1, 4, 4] (bodyC Try.f16)) (fun (e : Exit) (s : St) => (match v with | (.inl _) => e = .ret ∧ s = ⟨[(4, B false)], [.row .edt x1 false, .row .edt x2 false]⟩ | (.inr _) => e = .exit 0 ∧ s = ⟨[], [.row .edt x1 false, .row .edt x2 false]⟩ : Prop)) ⟨[(0, .one (.e (.sl 0 0 x1.length))), (1, .one (.e (.sl 1 0 x2.length))), (5, I i57)], [.row .edt x1 false, .row .edt x2 false]⟩ := by
  intro n
  induction n with
  | zero => intro _ h; exact none_e h
  | succ n ih =>
    intro i57 h
    rw [laws_equalEdits_L1] at h
    refine WL_round ?_
    refine W_seq ?_
    refine W_seq ?_
    refine W_region ?_
    refine WO_step 4 [0, 1] [0, 1, 5, 14] (True ∧ (True ∧ True)) ⟨[(0, .one (.e (.sl 0 0 x1.length))), (1, .one (.e (.sl 1 0 x2.length))), (5, I i57), (14, B (decide (i57 < ((x1.length : Nat) : Int))))], [.row .edt x1 false, .row .edt x2 false]⟩ (by kernel_rfl) ⟨trivial, trivial, trivial⟩ ?_
    refine WO_nil rfl ?_
    refine thenS_n ?_
    refine iteO_e h (fun hb71 h => W_true rfl hb71 ?_) (fun hb71 h => W_false rfl hb71 ?_)
    · refine W_sub [0, 1] [0, 1, 5] (st' := ⟨[(0, .one (.e (.sl 0 0 x1.length))), (1, .one (.e (.sl 1 0 x2.length))), (5, I i57)], [.row .edt x1 false, .row .edt x2 false]⟩) (by kernel_rfl) ?_
      refine W_skip ?_
      refine thenS_n ?_
      refine W_seq ?_
      refine W_block ?_
      refine W_seq ?_
      refine guardO_e h (fun hg76 h => ?_)
      refine guardO_e h (fun hg77 h => ?_)
      refine W_cut (Q' := fun (e : Exit) (s : St) => e = .normal ∧ s = ⟨[(0, .one (.e (.sl 0 0 x1.length))), (1, .one (.e (.sl 1 0 x2.length))), (5, I i57), (25, B (!((decide (((x1.getD i57.toNat dedt).kind) = ((x2.getD i57.toNat dedt).kind))) && ((decide (((x1.getD i57.toNat dedt).path) = ((x2.getD i57.toNat dedt).path))) && ((decide (((x1.getD i57.toNat dedt).value) = ((x2.getD i57.toNat dedt).value))) && true)))))], [.row .edt x1 false, .row .edt x2 false]⟩) ?_ ?_
      · refine W_draw [] true (by kernel_rfl) (by kernel_rfl) ?_
        refine WD_takeK [0, 1, 2, 3, 4, 5, 6, 7, 8] [0, 1, 5, 25] [0, 1, 5, 25] (φ := ((0 ≤ i57 ∧ i57 < ((x1.length : Nat) : Int)) ∧ (0 ≤ i57 ∧ i57 < ((x1.length : Nat) : Int)) ∧ (True ∧ True ∧ ((0 ≤ i57 ∧ i57 < ((x2.length : Nat) : Int)) ∧ (0 ≤ i57 ∧ i57 < ((x2.length : Nat) : Int)) ∧ (True ∧ True ∧ (True ∧ True ∧ True)))))) (ls' := #[true, true, true, true, true, true, true, true, true]) (Ts' := [(0, .one (.e (.sl 0 0 x1.length))), (1, .one (.e (.sl 1 0 x2.length))), (5, I i57), (25, B (!((decide (((x1.getD i57.toNat dedt).kind) = ((x2.getD i57.toNat dedt).kind))) && ((decide (((x1.getD i57.toNat dedt).path) = ((x2.getD i57.toNat dedt).path))) && ((decide (((x1.getD i57.toNat dedt).value) = ((x2.getD i57.toNat dedt).value))) && true)))))]) (st' := ⟨[(0, .one (.e (.sl 0 0 x1.length))), (1, .one (.e (.sl 1 0 x2.length))), (5, I i57), (25, B (!((decide (((x1.getD i57.toNat dedt).kind) = ((x2.getD i57.toNat dedt).kind))) && ((decide (((x1.getD i57.toNat dedt).path) = ((x2.getD i57.toNat dedt).path))) && ((decide (((x1.getD i57.toNat dedt).value) = ((x2.getD i57.toNat dedt).value))) && true)))))], [.row .edt x1 false, .row .edt x2 false]⟩) (n2 := 0) (by kernel_rfl) ⟨hg76, hg76, trivial, trivial, hg77, hg77, trivial, trivial, trivial, trivial, trivial⟩ rfl ?_
        exact WD_done [0, 1] [0, 1, 5, 25] (st' := ⟨[(0, .one (.e (.sl 0 0 x1.length))), (1, .one (.e (.sl 1 0 x2.length))), (5, I i57), (25, B (!((decide (((x1.getD i57.toNat dedt).kind) = ((x2.getD i57.toNat dedt).kind))) && ((decide (((x1.getD i57.toNat dedt).path) = ((x2.getD i57.toNat dedt).path))) && ((decide (((x1.getD i57.toNat dedt).value) = ((x2.getD i57.toNat dedt).value))) && true)))))], [.row .edt x1 false, .row .edt x2 false]⟩) (by kernel_rfl) (by kernel_rfl) (And.intro rfl rfl)
      · rintro _ _ ⟨rfl, rfl⟩
        refine thenS_n ?_
        refine iteO_e h (fun hb79 h => W_true rfl hb79 ?_) (fun hb79 h => W_false rfl hb79 ?_)
        · refine W_seq ?_
          refine W_region ?_
          refine WO_step 1 [0, 1] [4] True ⟨[(4, B false)], [.row .edt x1 false, .row .edt x2 false]⟩ (by kernel_rfl) trivial ?_
          refine WO_nil rfl ?_
          refine thenS_n ?_
          refine W_ret ?_
          refine blockS_r ?_
          refine thenS_r ?_
          refine thenS_r ?_
          cases h
          exact And.intro rfl rfl
        · refine W_sub [0, 1] [0, 1, 5] (st' := ⟨[(0, .one (.e (.sl 0 0 x1.length))), (1, .one (.e (.sl 1 0 x2.length))), (5, I i57)], [.row .edt x1 false, .row .edt x2 false]⟩) (by kernel_rfl) ?_
          refine W_skip ?_
          refine blockS_n ?_
          refine thenS_n ?_
          refine W_region ?_
          refine WO_step 3 [0, 1] [0, 1, 5] (True ∧ True) ⟨[(0, .one (.e (.sl 0 0 x1.length))), (1, .one (.e (.sl 1 0 x2.length))), (5, I (w64 (i57 + 1)))], [.row .edt x1 false, .row .edt x2 false]⟩ (by kernel_rfl) ⟨trivial, trivial⟩ ?_
          refine WO_nil rfl ?_
          refine thenS_n ?_
          exact ih _ h
    · refine W_sub [0, 1] [] (st' := ⟨[], [.row .edt x1 false, .row .edt x2 false]⟩) (by kernel_rfl) ?_
      refine W_exit ?_
      refine thenS_e ?_
      refine thenS_e ?_
      cases h
      exact And.intro rfl rfl

def laws_equalEdits (n : Nat) (x1 : List Edt) (x2 : List Edt) : Option (Bool) :=
 iteO (!decide (((x1.length : Nat) : Int) = ((x2.length : Nat) : Int)))
 (some false)
 (bindO (laws_equalEdits_L1 x1 x2 n 0) fun v80 =>
 match v80 with
 | (.inl _) => (some false)
 | (.inr _) => (some true)
)

theorem laws_equalEdits_ok (n : Nat) (x1 : List Edt) (x2 : List Edt) (b41 : Bool) (h : laws_equalEdits n x1 x2 = some b41) : FOk EE 16 [.one (.e (.sl 0 0 x1.length)), .one (.e (.sl 1 0 x2.length))] [.row .edt x1 false, .row .edt x2 false] (B b41) [.row .edt x1 false, .row .edt x2 false] := by
  unfold laws_equalEdits at h
  refine FOk_of_W 26 2 Try.func16 rfl rfl (Nat.le_of_ble_eq_true rfl) rfl (fun w X θ => ?_)
  refine W_seq ?_
  refine W_region ?_
  refine WO_step 1 [0, 1] [0, 1] True ⟨[(0, .one (.e (.sl 0 0 x1.length))), (1, .one (.e (.sl 1 0 x2.length)))], [.row .edt x1 false, .row .edt x2 false]⟩ (by kernel_rfl) trivial ?_
  refine WO_nil rfl ?_
  refine thenS_n ?_
  refine W_seq ?_
  refine W_seq ?_
  refine W_region ?_
  refine WO_step 5 [0, 1] [0, 1, 10] (True ∧ (True ∧ (True ∧ True))) ⟨[(0, .one (.e (.sl 0 0 x1.length))), (1, .one (.e (.sl 1 0 x2.length))), (10, B (!decide (((x1.length : Nat) : Int) = ((x2.length : Nat) : Int))))], [.row .edt x1 false, .row .edt x2 false]⟩ (by kernel_rfl) ⟨trivial, trivial, trivial, trivial⟩ ?_
  refine WO_nil rfl ?_
  refine thenS_n ?_
  refine iteO_e h (fun hb43 h => W_true rfl hb43 ?_) (fun hb43 h => W_false rfl hb43 ?_)
  · refine W_seq ?_
    refine W_region ?_
    refine WO_step 1 [0, 1] [4] True ⟨[(4, B false)], [.row .edt x1 false, .row .edt x2 false]⟩ (by kernel_rfl) trivial ?_
    refine WO_nil rfl ?_
    refine thenS_n ?_
    refine W_ret ?_
    refine thenS_r ?_
    cases h
    exact ⟨[0, 1], True, by kernel_rfl, trivial⟩
  · refine W_sub [0, 1] [0, 1] (st' := ⟨[(0, .one (.e (.sl 0 0 x1.length))), (1, .one (.e (.sl 1 0 x2.length)))], [.row .edt x1 false, .row .edt x2 false]⟩) (by kernel_rfl) ?_
    refine W_skip ?_
    refine thenS_n ?_
    refine W_seq ?_
    refine W_seq ?_
    refine W_region ?_
    refine WO_step 1 [0, 1] [0, 1, 5] True ⟨[(0, .one (.e (.sl 0 0 x1.length))), (1, .one (.e (.sl 1 0 x2.length))), (5, I 0)], [.row .edt x1 false, .row .edt x2 false]⟩ (by kernel_rfl) trivial ?_
    refine WO_nil rfl ?_
    refine thenS_n ?_
    refine W_block ?_
    refine W_loop ?_
    refine bindO_e h (fun v80 hv80 h => ?_)
    refine WL_cut (laws_equalEdits_L1_ok w X θ x1 x2 v80 n 0 hv80) ?_
    rcases v80 with _ | _
    · rintro _ _ ⟨rfl, rfl⟩
      refine blockS_r ?_
      refine thenS_r ?_
      cases h
      exact ⟨[0, 1], True, by kernel_rfl, trivial⟩
    · rintro _ _ ⟨rfl, rfl⟩
      refine blockS_y ?_
      refine thenS_n ?_
      refine W_seq ?_
      refine W_region ?_
      refine WO_step 1 [0, 1] [4] True ⟨[(4, B true)], [.row .edt x1 false, .row .edt x2 false]⟩ (by kernel_rfl) trivial ?_
      refine WO_nil rfl ?_
      refine thenS_n ?_
      refine W_ret ?_
      cases h
      exact ⟨[0, 1], True, by kernel_rfl, trivial⟩

/- impl.Node] -/
def slices_Clone_Node (x1 : List Nod) : Option (List Nod) :=
 guardO (x1.length ≤ 1099511627776) <|
 some x1

theorem slices_Clone_Node_ok (x1 x2 : List Nod) (h : slices_Clone_Node x1 = some x2) : FOk EE 40 [.one (.e (.sl 0 0 x1.length))] [.row .nod x1 false] (.one (.e (.sl 1 0 x2.length))) [.row .nod x1 false, .row .nod x2 true] := by
  unfold slices_Clone_Node at h
  refine guardO_e h (fun hg h => ?_)
  cases h
  refine FOk_of_W 8 1 Try.func40 rfl rfl (Nat.le_of_ble_eq_true rfl) rfl (fun w X θ => ?_)
  refine W_seq ?_
  refine W_region ?_
  refine WO_step 1 [0] [0] True ⟨[(0, .one (.e (.sl 0 0 x1.length)))], [.row .nod x1 false]⟩ (by kernel_rfl) trivial ?_
  refine WO_nil rfl ?_
  refine thenS_n ?_
  refine W_seq ?_
  refine W_seq ?_
  refine W_region ?_
  refine WO_step 1 [0] [0, 3] True ⟨[(0, .one (.e (.sl 0 0 x1.length))), (3, .one (.e (.sl 0 0 x1.length)))], [.row .nod x1 false]⟩ (by kernel_rfl) trivial ?_
  refine WO_isnil (R := .nod) (xs := x1) (own := false) rfl rfl rfl rfl Try.underlying26 rfl rfl rfl (fun b hb => ?_)
  refine WO_nil rfl ?_
  refine thenS_n ?_
  cases b with
  | true =>
    have e : x1 = [] := List.eq_nil_of_length_eq_zero (hb rfl)
    subst e
    refine W_true rfl rfl ?_
    refine W_seq ?_
    refine W_region ?_
    refine WO_step 1 [0] [2] True ⟨[(2, .one (.e .nsl))], [.row .nod [] false]⟩ (by kernel_rfl) trivial ?_
    refine WO_nil rfl ?_
    refine thenS_n ?_
    refine W_nil 2 .nod rfl ?_
    refine W_ret ?_
    refine thenS_r ?_
    exact ⟨[0, 1], True, by kernel_rfl, trivial⟩
  | false =>
    refine W_false rfl rfl ?_
    refine W_sub [0] [0] (st' := ⟨[(0, .one (.e (.sl 0 0 x1.length)))], [.row .nod x1 false]⟩) (by kernel_rfl) ?_
    refine W_skip ?_
    refine thenS_n ?_
    refine W_seq ?_
    refine W_region ?_
    refine WO_step 4 [0, 2] [2] ((0 = 0 ∧ 0 = ([] : List Nod).length ∧ ([] : List Nod).length + ((x1.drop 0).take x1.length).length ≤ 1099511627776) ∧ True) ⟨[(2, .one (.e (.sl 1 0 (([] : List Nod) ++ ((x1.drop 0).take x1.length)).length)))], [.row .nod x1 false, .row .nod (([] : List Nod) ++ ((x1.drop 0).take x1.length)) true]⟩ (by kernel_rfl) ⟨⟨rfl, rfl, by simpa using hg⟩, trivial⟩ ?_
    refine WO_eq (st' := ⟨[(2, .one (.e (.sl 1 0 x1.length)))], [.row .nod x1 false, .row .nod x1 true]⟩) (by simp only [List.drop_zero, List.take_length, List.nil_append]) ?_
    refine WO_nil rfl ?_
    refine thenS_n ?_
    refine W_ret ?_
    exact ⟨[0, 1], True, by kernel_rfl, trivial⟩

/- impl.reaches -/
def impl_reaches_L1 (x1 : List Nod) (i2 : Int) : Nat → Int → Option (Int)
| 0, _ => none
| n + 1, i33 =>
 iteO (decide (i2 < i33))
 (guardO (0 ≤ i33 ∧ i33 < ((x1.length : Nat) : Int)) <|
 impl_reaches_L1 x1 i2 n ((x1.getD i33.toNat dnod).parent))
 (some i33)

theorem impl_reaches_L1_ok (w : World) (X : Nat → Prop) (θ : List Loc) (x1 : List Nod) (i2 : Int) (i39 : Int) : ∀ (n : Nat) (i33 : Int), impl_reaches_L1 x1 i2 n i33 = some i39 → WL EE ⟨w, X, θ, 18, 1⟩ (subC [1, 0, 4, 4] (bodyC Try.f72)) (fun (e : Exit) (s : St) => e = .exit 0 ∧ s = ⟨[(1, I i2), (2, I i39)], [.row .nod x1 false]⟩) ⟨[(0, .one (.e (.sl 0 0 x1.length))), (1, I i2), (2, I i33)], [.row .nod x1 false]⟩ := by
  intro n
  induction n with
  | zero => intro _ h; exact none_e h
  | succ n ih =>
    intro i33 h
    rw [impl_reaches_L1] at h
    refine WL_round ?_
    refine W_seq ?_
    refine W_seq ?_
    refine W_region ?_
    refine WO_step 3 [0] [0, 1, 2, 9] (True ∧ True) ⟨[(0, .one (.e (.sl 0 0 x1.length))), (1, I i2), (2, I i33), (9, B (decide (i2 < i33)))], [.row .nod x1 false]⟩ (by kernel_rfl) ⟨trivial, trivial⟩ ?_
    refine WO_nil rfl ?_
    refine thenS_n ?_
    refine iteO_e h (fun hb42 h => W_true rfl hb42 ?_) (fun hb42 h => W_false rfl hb42 ?_)
    · refine W_sub [0] [0, 1, 2] (st' := ⟨[(0, .one (.e (.sl 0 0 x1.length))), (1, I i2), (2, I i33)], [.row .nod x1 false]⟩) (by kernel_rfl) ?_
      refine W_skip ?_
      refine thenS_n ?_
      refine W_block ?_
      refine W_region ?_
      refine guardO_e h (fun hg44 h => ?_)
      refine WO_step 6 [0] [0, 1, 2] ((0 ≤ i33 ∧ i33 < ((x1.length : Nat) : Int)) ∧ (True ∧ True)) ⟨[(0, .one (.e (.sl 0 0 x1.length))), (1, I i2), (2, I ((x1.getD i33.toNat dnod).parent))], [.row .nod x1 false]⟩ (by kernel_rfl) ⟨hg44, trivial, trivial⟩ ?_
      refine WO_nil rfl ?_
      refine blockS_n ?_
      refine thenS_n ?_
      exact ih _ h
    · refine W_sub [0] [1, 2] (st' := ⟨[(1, I i2), (2, I i33)], [.row .nod x1 false]⟩) (by kernel_rfl) ?_
      refine W_exit ?_
      refine thenS_e ?_
      refine thenS_e ?_
      cases h
      exact And.intro rfl rfl

def impl_reaches (n : Nat) (x1 : List Nod) (i2 : Int) (i3 : Int) : Option (Bool) :=
 bindO (impl_reaches_L1 x1 i2 n i3) fun i39 =>
 some (decide (i39 = i2))

theorem impl_reaches_ok (n : Nat) (x1 : List Nod) (i2 : Int) (i3 : Int) (b24 : Bool) (h : impl_reaches n x1 i2 i3 = some b24) : FOk EE 72 [.one (.e (.sl 0 0 x1.length)), I i2, I i3] [.row .nod x1 false] (B b24) [.row .nod x1 false] := by
  unfold impl_reaches at h
  refine FOk_of_W 18 1 Try.func72 rfl rfl (Nat.le_of_ble_eq_true rfl) rfl (fun w X θ => ?_)
  refine W_seq ?_
  refine W_region ?_
  refine WO_step 1 [0] [0, 1, 2] True ⟨[(0, .one (.e (.sl 0 0 x1.length))), (1, I i2), (2, I i3)], [.row .nod x1 false]⟩ (by kernel_rfl) trivial ?_
  refine WO_nil rfl ?_
  refine thenS_n ?_
  refine W_seq ?_
  refine W_block ?_
  refine W_loop ?_
  refine bindO_e h (fun i39 hi39 h => ?_)
  refine WL_cut (impl_reaches_L1_ok w X θ x1 i2 i39 n i3 hi39) ?_
  rintro _ _ ⟨rfl, rfl⟩
  refine blockS_y ?_
  refine thenS_n ?_
  refine W_seq ?_
  refine W_region ?_
  refine WO_step 4 [0] [6] (True ∧ True) ⟨[(6, B (decide (i39 = i2)))], [.row .nod x1 false]⟩ (by kernel_rfl) ⟨trivial, trivial⟩ ?_
  refine WO_nil rfl ?_
  refine thenS_n ?_
  refine W_ret ?_
  cases h
  exact ⟨[0], True, by kernel_rfl, trivial⟩

/- impl.DropNode -/
def impl_DropNode_L1 (x1 : List Nod) (i2 : Int) : Nat → (List Int) → (List Nod) → Int → Option ((List Nod))
| 0, _, _, _ => none
| n + 1, x109, x110, i111 =>
 iteO (decide (i111 < ((x1.length : Nat) : Int)))
 (bindO (guardO (0 ≤ i111 ∧ i111 < ((x1.length : Nat) : Int)) <|
 bindO (impl_reaches n x1 i2 i111) fun b150 =>
 iteO b150
 (some (x109, x110))
 (guardO (0 ≤ i111 ∧ i111 < ((x109.length : Nat) : Int)) <|
 bindO (iteO (decide (0 < i111))
 (guardO (0 ≤ (x1.getD i111.toNat dnod).parent ∧ (x1.getD i111.toNat dnod).parent < (((x109.set i111.toNat ((x110.length : Nat) : Int)).length : Nat) : Int)) <|
 some ((x109.set i111.toNat ((x110.length : Nat) : Int)).getD (((x1.getD i111.toNat dnod).parent).toNat) 0))
 (some ((x1.getD i111.toNat dnod).parent))) fun i157 =>
 guardO (0 = 0 ∧ x110.length = x110.length ∧ x110.length + (([(⟨i157, (x1.getD i111.toNat dnod).name, (x1.getD i111.toNat dnod).value⟩ : Nod)].drop 0).take ([(⟨i157, (x1.getD i111.toNat dnod).name, (x1.getD i111.toNat dnod).value⟩ : Nod)].length)).length ≤ 1099511627776) <|
 some ((x109.set i111.toNat ((x110.length : Nat) : Int)), (x110 ++ (([(⟨i157, (x1.getD i111.toNat dnod).name, (x1.getD i111.toNat dnod).value⟩ : Nod)].drop 0).take ([(⟨i157, (x1.getD i111.toNat dnod).name, (x1.getD i111.toNat dnod).value⟩ : Nod)].length)))))) fun v148 =>
 match v148 with
 | (x146, x147) => (impl_DropNode_L1 x1 i2 n x146 x147 (w64 (i111 + 1)))
)
 (some x110)

theorem impl_DropNode_L1_ok (w : World) (X : Nat → Prop) (θ : List Loc) (x1 : List Nod) (i2 : Int) (x131 : (List Nod)) : ∀ (n : Nat) (x109 : List Int) (x110 : List Nod) (i111 : Int), impl_DropNode_L1 x1 i2 n x109 x110 i111 = some x131 → WL EE ⟨w, X, θ, 51, 1⟩ (subC [1, 1, 1, 1, 0, 1, 4, 4] (bodyC Try.f57)) (fun (e : Exit) (s : St) => e = .exit 0 ∧ s = ⟨[(7, .one (.e (.sl 1 0 x131.length)))], [.row .nod x1 false, .row .nod x131 true]⟩) ⟨[(0, .one (.e (.sl 0 0 x1.length))), (1, I i2), (6, .one (.e (.sl 1 0 x109.length))), (7, .one (.e (.sl 2 0 x110.length))), (21, .one (.e (.sl 0 0 x1.length))), (22, I ((x1.length : Nat) : Int)), (23, I i111)], [.row .nod x1 false, .row .int x109 true, .row .nod x110 true]⟩ := by
  intro n
  induction n with
  | zero => intro _ _ _ h; exact none_e h
  | succ n ih =>
    intro x109 x110 i111 h
    rw [impl_DropNode_L1] at h
    refine WL_round ?_
    refine W_seq ?_
    refine W_region ?_
    refine WO_step 1 [0, 1, 2] [0, 1, 6, 7, 21, 22, 23, 24] (True ∧ True) ⟨[(0, .one (.e (.sl 0 0 x1.length))), (1, I i2), (6, .one (.e (.sl 1 0 x109.length))), (7, .one (.e (.sl 2 0 x110.length))), (21, .one (.e (.sl 0 0 x1.length))), (22, I ((x1.length : Nat) : Int)), (23, I i111), (24, B (decide (i111 < ((x1.length : Nat) : Int))))], [.row .nod x1 false, .row .int x109 true, .row .nod x110 true]⟩ (by kernel_rfl) ⟨trivial, trivial⟩ ?_
    refine WO_nil rfl ?_
    refine thenS_n ?_
    refine W_seq ?_
    refine iteO_e h (fun hb134 h => W_true rfl hb134 ?_) (fun hb134 h => W_false rfl hb134 ?_)
    · refine W_sub [0, 1, 2] [0, 1, 6, 7, 21, 22, 23] (st' := ⟨[(0, .one (.e (.sl 0 0 x1.length))), (1, I i2), (6, .one (.e (.sl 1 0 x109.length))), (7, .one (.e (.sl 2 0 x110.length))), (21, .one (.e (.sl 0 0 x1.length))), (22, I ((x1.length : Nat) : Int)), (23, I i111)], [.row .nod x1 false, .row .int x109 true, .row .nod x110 true]⟩) (by kernel_rfl) ?_
      refine W_skip ?_
      refine thenS_n ?_
      refine W_seq ?_
      refine bindO_e h (fun v148 hv148 h => ?_)
      refine W_cut (Q' := fun (e : Exit) (s : St) => (match v148 with | (x146, x147) => e = .normal ∧ s = ⟨[(0, .one (.e (.sl 0 0 x1.length))), (1, I i2), (6, .one (.e (.sl 1 0 x146.length))), (7, .one (.e (.sl 2 0 x147.length))), (21, .one (.e (.sl 0 0 x1.length))), (22, I ((x1.length : Nat) : Int)), (23, I i111)], [.row .nod x1 false, .row .int x146 true, .row .nod x147 true]⟩ : Prop)) ?_ ?_
      · refine W_block ?_
        refine W_seq ?_
        refine W_region ?_
        refine guardO_e hv148 (fun hg149 hv148 => ?_)
        refine WO_step 6 [0, 1, 2, 3] [0, 1, 6, 7, 8, 9, 21, 22, 23] ((0 ≤ i111 ∧ i111 < ((x1.length : Nat) : Int)) ∧ (True ∧ (True ∧ (True ∧ True)))) ⟨[(0, .one (.e (.sl 0 0 x1.length))), (1, I i2), (6, .one (.e (.sl 1 0 x109.length))), (7, .one (.e (.sl 2 0 x110.length))), (8, I i111), (9, .one (.e (.p 3 0))), (21, .one (.e (.sl 0 0 x1.length))), (22, I ((x1.length : Nat) : Int)), (23, I i111)], [.row .nod x1 false, .row .int x109 true, .row .nod x110 true, .cells [cI ((x1.getD i111.toNat dnod).parent), cS ((x1.getD i111.toNat dnod).name), cI ((x1.getD i111.toNat dnod).value)]]⟩ (by kernel_rfl) ⟨hg149, trivial, trivial, trivial, trivial⟩ ?_
        refine WO_nil rfl ?_
        refine thenS_n ?_
        refine W_seq ?_
        refine W_seq ?_
        refine W_region ?_
        refine WO_step 3 [0, 1, 2, 3] [0, 1, 6, 7, 8, 9, 21, 22, 23, 28, 29, 30] True ⟨[(0, .one (.e (.sl 0 0 x1.length))), (1, I i2), (6, .one (.e (.sl 1 0 x109.length))), (7, .one (.e (.sl 2 0 x110.length))), (8, I i111), (9, .one (.e (.p 3 0))), (21, .one (.e (.sl 0 0 x1.length))), (22, I ((x1.length : Nat) : Int)), (23, I i111), (28, .one (.e (.sl 0 0 x1.length))), (29, I i2), (30, I i111)], [.row .nod x1 false, .row .int x109 true, .row .nod x110 true, .cells [cI ((x1.getD i111.toNat dnod).parent), cS ((x1.getD i111.toNat dnod).name), cI ((x1.getD i111.toNat dnod).value)]]⟩ (by kernel_rfl) trivial ?_
        refine bindO_e hv148 (fun b150 hc151 hv148 => ?_)
        refine WO_call [.ro 0] Try.f72 rfl rfl rfl (by kernel_rfl) Try.func72 rfl (by kernel_rfl) (impl_reaches_ok n x1 i2 i111 b150 hc151) (And.intro (And.intro rfl rfl) (trivial)) rfl ?_
        refine WO_sub [0, 1, 2, 3] [0, 1, 6, 7, 8, 9, 21, 22, 23, 31] (st' := ⟨[(0, .one (.e (.sl 0 0 x1.length))), (1, I i2), (6, .one (.e (.sl 1 0 x109.length))), (7, .one (.e (.sl 2 0 x110.length))), (8, I i111), (9, .one (.e (.p 3 0))), (21, .one (.e (.sl 0 0 x1.length))), (22, I ((x1.length : Nat) : Int)), (23, I i111), (31, B b150)], [.row .nod x1 false, .row .int x109 true, .row .nod x110 true, .cells [cI ((x1.getD i111.toNat dnod).parent), cS ((x1.getD i111.toNat dnod).name), cI ((x1.getD i111.toNat dnod).value)]]⟩) (by kernel_rfl) ?_
        refine WO_nil rfl ?_
        refine thenS_n ?_
        refine iteO_e hv148 (fun hb153 hv148 => W_true rfl hb153 ?_) (fun hb153 hv148 => W_false rfl hb153 ?_)
        · refine W_sub [0, 1, 2] [0, 1, 6, 7, 21, 22, 23] (st' := ⟨[(0, .one (.e (.sl 0 0 x1.length))), (1, I i2), (6, .one (.e (.sl 1 0 x109.length))), (7, .one (.e (.sl 2 0 x110.length))), (21, .one (.e (.sl 0 0 x1.length))), (22, I ((x1.length : Nat) : Int)), (23, I i111)], [.row .nod x1 false, .row .int x109 true, .row .nod x110 true]⟩) (by kernel_rfl) ?_
          refine W_exit ?_
          refine thenS_e ?_
          refine blockS_y ?_
          cases hv148
          exact And.intro rfl rfl
        · refine W_sub [0, 1, 2, 3] [0, 1, 6, 7, 8, 9, 21, 22, 23] (st' := ⟨[(0, .one (.e (.sl 0 0 x1.length))), (1, I i2), (6, .one (.e (.sl 1 0 x109.length))), (7, .one (.e (.sl 2 0 x110.length))), (8, I i111), (9, .one (.e (.p 3 0))), (21, .one (.e (.sl 0 0 x1.length))), (22, I ((x1.length : Nat) : Int)), (23, I i111)], [.row .nod x1 false, .row .int x109 true, .row .nod x110 true, .cells [cI ((x1.getD i111.toNat dnod).parent), cS ((x1.getD i111.toNat dnod).name), cI ((x1.getD i111.toNat dnod).value)]]⟩) (by kernel_rfl) ?_
          refine W_skip ?_
          refine thenS_n ?_
          refine W_seq ?_
          refine W_region ?_
          refine guardO_e hv148 (fun hg154 hv148 => ?_)
          refine WO_step 6 [0, 1, 2, 3] [0, 1, 6, 7, 8, 9, 21, 22, 23] (True ∧ ((0 ≤ i111 ∧ i111 < ((x109.length : Nat) : Int)) ∧ (True ∧ True))) ⟨[(0, .one (.e (.sl 0 0 x1.length))), (1, I i2), (6, .one (.e (.sl 1 0 x109.length))), (7, .one (.e (.sl 2 0 x110.length))), (8, I i111), (9, .one (.e (.p 3 0))), (21, .one (.e (.sl 0 0 x1.length))), (22, I ((x1.length : Nat) : Int)), (23, I i111)], [.row .nod x1 false, .row .int (x109.set i111.toNat ((x110.length : Nat) : Int)) true, .row .nod x110 true, .cells [cI ((x1.getD i111.toNat dnod).parent), cS ((x1.getD i111.toNat dnod).name), cI ((x1.getD i111.toNat dnod).value)]]⟩ (by kernel_rfl) ⟨trivial, hg154, trivial, trivial⟩ ?_
          refine WO_eq (st' := ⟨[(0, .one (.e (.sl 0 0 x1.length))), (1, I i2), (6, .one (.e (.sl 1 0 ((x109.set i111.toNat ((x110.length : Nat) : Int)).length)))), (7, .one (.e (.sl 2 0 x110.length))), (8, I i111), (9, .one (.e (.p 3 0))), (21, .one (.e (.sl 0 0 x1.length))), (22, I ((x1.length : Nat) : Int)), (23, I i111)], [.row .nod x1 false, .row .int (x109.set i111.toNat ((x110.length : Nat) : Int)) true, .row .nod x110 true, .cells [cI ((x1.getD i111.toNat dnod).parent), cS ((x1.getD i111.toNat dnod).name), cI ((x1.getD i111.toNat dnod).value)]]⟩) (by simp only [List.length_set]) ?_
          refine WO_nil rfl ?_
          refine thenS_n ?_
          refine W_seq ?_
          refine W_seq ?_
          refine W_region ?_
          refine WO_step 2 [0, 1, 2, 3] [0, 1, 6, 7, 9, 21, 22, 23, 38] (True ∧ True) ⟨[(0, .one (.e (.sl 0 0 x1.length))), (1, I i2), (6, .one (.e (.sl 1 0 ((x109.set i111.toNat ((x110.length : Nat) : Int)).length)))), (7, .one (.e (.sl 2 0 x110.length))), (9, .one (.e (.p 3 0))), (21, .one (.e (.sl 0 0 x1.length))), (22, I ((x1.length : Nat) : Int)), (23, I i111), (38, B (decide (0 < i111)))], [.row .nod x1 false, .row .int (x109.set i111.toNat ((x110.length : Nat) : Int)) true, .row .nod x110 true, .cells [cI ((x1.getD i111.toNat dnod).parent), cS ((x1.getD i111.toNat dnod).name), cI ((x1.getD i111.toNat dnod).value)]]⟩ (by kernel_rfl) ⟨trivial, trivial⟩ ?_
          refine WO_nil rfl ?_
          refine thenS_n ?_
          refine bindO_e hv148 (fun i157 hi157 hv148 => ?_)
          refine W_cut (Q' := fun (e : Exit) (s : St) => e = .normal ∧ s = ⟨[(0, .one (.e (.sl 0 0 x1.length))), (1, I i2), (6, .one (.e (.sl 1 0 ((x109.set i111.toNat ((x110.length : Nat) : Int)).length)))), (7, .one (.e (.sl 2 0 x110.length))), (9, .one (.e (.p 3 0))), (21, .one (.e (.sl 0 0 x1.length))), (22, I ((x1.length : Nat) : Int)), (23, I i111)], [.row .nod x1 false, .row .int (x109.set i111.toNat ((x110.length : Nat) : Int)) true, .row .nod x110 true, .cells [cI i157, cS ((x1.getD i111.toNat dnod).name), cI ((x1.getD i111.toNat dnod).value)]]⟩) ?_ ?_
          · refine iteO_e hi157 (fun hb159 hi157 => W_true rfl hb159 ?_) (fun hb159 hi157 => W_false rfl hb159 ?_)
            · refine W_region ?_
              refine guardO_e hi157 (fun hg160 hi157 => ?_)
              refine WO_step 7 [0, 1, 2, 3] [0, 1, 6, 7, 9, 21, 22, 23] (True ∧ ((0 ≤ (x1.getD i111.toNat dnod).parent ∧ (x1.getD i111.toNat dnod).parent < (((x109.set i111.toNat ((x110.length : Nat) : Int)).length : Nat) : Int)) ∧ (True ∧ (True ∧ True)))) ⟨[(0, .one (.e (.sl 0 0 x1.length))), (1, I i2), (6, .one (.e (.sl 1 0 ((x109.set i111.toNat ((x110.length : Nat) : Int)).length)))), (7, .one (.e (.sl 2 0 x110.length))), (9, .one (.e (.p 3 0))), (21, .one (.e (.sl 0 0 x1.length))), (22, I ((x1.length : Nat) : Int)), (23, I i111)], [.row .nod x1 false, .row .int (x109.set i111.toNat ((x110.length : Nat) : Int)) true, .row .nod x110 true, .cells [cI ((x109.set i111.toNat ((x110.length : Nat) : Int)).getD (((x1.getD i111.toNat dnod).parent).toNat) 0), cS ((x1.getD i111.toNat dnod).name), cI ((x1.getD i111.toNat dnod).value)]]⟩ (by kernel_rfl) ⟨trivial, hg160, trivial, trivial, trivial⟩ ?_
              refine WO_nil rfl ?_
              cases hi157
              exact And.intro rfl rfl
            · refine W_sub [0, 1, 2, 3] [0, 1, 6, 7, 9, 21, 22, 23] (st' := ⟨[(0, .one (.e (.sl 0 0 x1.length))), (1, I i2), (6, .one (.e (.sl 1 0 ((x109.set i111.toNat ((x110.length : Nat) : Int)).length)))), (7, .one (.e (.sl 2 0 x110.length))), (9, .one (.e (.p 3 0))), (21, .one (.e (.sl 0 0 x1.length))), (22, I ((x1.length : Nat) : Int)), (23, I i111)], [.row .nod x1 false, .row .int (x109.set i111.toNat ((x110.length : Nat) : Int)) true, .row .nod x110 true, .cells [cI ((x1.getD i111.toNat dnod).parent), cS ((x1.getD i111.toNat dnod).name), cI ((x1.getD i111.toNat dnod).value)]]⟩) (by kernel_rfl) ?_
              refine W_skip ?_
              cases hi157
              exact And.intro rfl rfl
          · rintro _ _ ⟨rfl, rfl⟩
            refine thenS_n ?_
            refine W_region ?_
            refine guardO_e hv148 (fun hg161 hv148 => ?_)
            refine WO_step 5 [0, 1, 5] [0, 1, 6, 7, 21, 22, 23] (True ∧ ((0 = 0 ∧ x110.length = x110.length ∧ x110.length + (([(⟨i157, (x1.getD i111.toNat dnod).name, (x1.getD i111.toNat dnod).value⟩ : Nod)].drop 0).take ([(⟨i157, (x1.getD i111.toNat dnod).name, (x1.getD i111.toNat dnod).value⟩ : Nod)].length)).length ≤ 1099511627776) ∧ True)) ⟨[(0, .one (.e (.sl 0 0 x1.length))), (1, I i2), (6, .one (.e (.sl 1 0 ((x109.set i111.toNat ((x110.length : Nat) : Int)).length)))), (7, .one (.e (.sl 2 0 ((x110 ++ (([(⟨i157, (x1.getD i111.toNat dnod).name, (x1.getD i111.toNat dnod).value⟩ : Nod)].drop 0).take ([(⟨i157, (x1.getD i111.toNat dnod).name, (x1.getD i111.toNat dnod).value⟩ : Nod)].length))).length)))), (21, .one (.e (.sl 0 0 x1.length))), (22, I ((x1.length : Nat) : Int)), (23, I i111)], [.row .nod x1 false, .row .int (x109.set i111.toNat ((x110.length : Nat) : Int)) true, .row .nod (x110 ++ (([(⟨i157, (x1.getD i111.toNat dnod).name, (x1.getD i111.toNat dnod).value⟩ : Nod)].drop 0).take ([(⟨i157, (x1.getD i111.toNat dnod).name, (x1.getD i111.toNat dnod).value⟩ : Nod)].length))) true]⟩ (by kernel_rfl) ⟨trivial, hg161, trivial⟩ ?_
            refine WO_nil rfl ?_
            refine blockS_n ?_
            cases hv148
            exact And.intro rfl rfl
      · obtain ⟨x146, x147⟩ := v148
        rintro _ _ ⟨rfl, rfl⟩
        refine thenS_n ?_
        refine W_region ?_
        refine WO_step 2 [0, 1, 2] [0, 1, 6, 7, 21, 22, 23] (True ∧ True) ⟨[(0, .one (.e (.sl 0 0 x1.length))), (1, I i2), (6, .one (.e (.sl 1 0 x146.length))), (7, .one (.e (.sl 2 0 x147.length))), (21, .one (.e (.sl 0 0 x1.length))), (22, I ((x1.length : Nat) : Int)), (23, I (w64 (i111 + 1)))], [.row .nod x1 false, .row .int x146 true, .row .nod x147 true]⟩ (by kernel_rfl) ⟨trivial, trivial⟩ ?_
        refine WO_nil rfl ?_
        refine thenS_n ?_
        exact ih _ _ _ h
    · refine W_sub [0, 2] [7] (st' := ⟨[(7, .one (.e (.sl 1 0 x110.length)))], [.row .nod x1 false, .row .nod x110 true]⟩) (by kernel_rfl) ?_
      refine W_exit ?_
      refine thenS_e ?_
      refine thenS_e ?_
      cases h
      exact And.intro rfl rfl

def impl_DropNode (n : Nat) (x1 : List Nod) (i2 : Int) : Option ((List Nod) × Bool) :=
 bindO (impl_isNode n x1 i2) fun b77 =>
 iteO ((!b77) || (decide (i2 = 0)))
 (some (([] : List Nod), false))
 (guardO ((((x1.length : Nat) : Int) : Int) = ((x1.length : Nat) : Int) ∧ 0 ≤ ((x1.length : Nat) : Int) ∧ ((x1.length : Nat) : Int) ≤ 1099511627776) <|
 bindO (impl_DropNode_L1 x1 i2 n (List.replicate (((x1.length : Nat) : Int).toNat) (0 : Int)) ([] : List Nod) 0) fun x131 =>
 some (x131, true))

theorem impl_DropNode_ok (n : Nat) (x1 : List Nod) (i2 : Int) (x75 : List Nod) (b76 : Bool) (h : impl_DropNode n x1 i2 = some (x75, b76)) : FOk EE 57 [.one (.e (.sl 0 0 x1.length)), I i2] [.row .nod x1 false] (.tup [.e (.sl 1 0 x75.length), .e (cB b76)]) [.row .nod x1 false, .row .nod x75 true] := by
  unfold impl_DropNode at h
  refine FOk_of_W 51 1 Try.func57 rfl rfl (Nat.le_of_ble_eq_true rfl) rfl (fun w X θ => ?_)
  refine W_seq ?_
  refine W_region ?_
  refine WO_step 2 [0] [0, 1] True ⟨[(0, .one (.e (.sl 0 0 x1.length))), (1, I i2)], [.row .nod x1 false]⟩ (by kernel_rfl) trivial ?_
  refine WO_nil rfl ?_
  refine thenS_n ?_
  refine W_seq ?_
  refine W_seq ?_
  refine W_region ?_
  refine WO_step 2 [0] [0, 1, 10, 11] True ⟨[(0, .one (.e (.sl 0 0 x1.length))), (1, I i2), (10, .one (.e (.sl 0 0 x1.length))), (11, I i2)], [.row .nod x1 false]⟩ (by kernel_rfl) trivial ?_
  refine bindO_e h (fun b77 hc78 h => ?_)
  refine WO_call [.ro 0] Try.f46 rfl rfl rfl (by kernel_rfl) Try.func46 rfl (by kernel_rfl) (impl_isNode_ok n x1 i2 b77 hc78) (And.intro (And.intro rfl rfl) (trivial)) rfl ?_
  refine WO_step 2 [0] [0, 1, 14] True ⟨[(0, .one (.e (.sl 0 0 x1.length))), (1, I i2), (14, B (!b77))], [.row .nod x1 false]⟩ (by kernel_rfl) trivial ?_
  refine WO_thru ⟨[(0, .one (.e (.sl 0 0 x1.length))), (1, I i2), (17, B ((!b77) || (decide (i2 = 0))))], [.row .nod x1 false]⟩ ?_ ?_
  · refine WO_if 14 rfl (fun hb81 => ?_) (fun hb81 => ?_)
    · refine WO_step 3 [0] [0, 1, 17] True ⟨[(0, .one (.e (.sl 0 0 x1.length))), (1, I i2), (17, B true)], [.row .nod x1 false]⟩ (by kernel_rfl) trivial ?_
      exact WO_nil rfl ⟨rfl, by first | rfl | (rw [hb81]; first | done | rfl)⟩
    · refine WO_step 3 [0] [0, 1, 17] (True ∧ True) ⟨[(0, .one (.e (.sl 0 0 x1.length))), (1, I i2), (17, B (decide (i2 = 0)))], [.row .nod x1 false]⟩ (by kernel_rfl) ⟨trivial, trivial⟩ ?_
      exact WO_nil rfl ⟨rfl, by first | rfl | (rw [hb81]; first | done | rfl)⟩
  · refine thenS_n ?_
    refine iteO_e h (fun hb83 h => W_true rfl hb83 ?_) (fun hb83 h => W_false rfl hb83 ?_)
    · refine W_seq ?_
      refine W_region ?_
      refine WO_step 2 [0] [4, 5] True ⟨[(4, .one (.e (.nsl))), (5, B false)], [.row .nod x1 false]⟩ (by kernel_rfl) trivial ?_
      refine WO_nilrow 4 .nod rfl ?_
      refine WO_sub [0, 1] [4, 5] (st' := ⟨[(4, .one (.e (.sl 1 0 (([] : List Nod).length)))), (5, B false)], [.row .nod x1 false, .row .nod ([] : List Nod) true]⟩) (by kernel_rfl) ?_
      refine WO_nil rfl ?_
      refine thenS_n ?_
      refine W_ret ?_
      refine thenS_r ?_
      cases h
      exact ⟨[0, 1], True, by kernel_rfl, trivial⟩
    · refine W_sub [0] [0, 1] (st' := ⟨[(0, .one (.e (.sl 0 0 x1.length))), (1, I i2)], [.row .nod x1 false]⟩) (by kernel_rfl) ?_
      refine W_skip ?_
      refine thenS_n ?_
      refine W_seq ?_
      refine W_region ?_
      refine guardO_e h (fun hg84 h => ?_)
      refine WO_step 4 [0, 1] [0, 1, 6] (True ∧ (((((x1.length : Nat) : Int) : Int) = ((x1.length : Nat) : Int) ∧ 0 ≤ ((x1.length : Nat) : Int) ∧ ((x1.length : Nat) : Int) ≤ 1099511627776) ∧ True)) ⟨[(0, .one (.e (.sl 0 0 x1.length))), (1, I i2), (6, .one (.e (.sl 1 0 ((List.replicate (((x1.length : Nat) : Int).toNat) (0 : Int)).length))))], [.row .nod x1 false, .row .int (List.replicate (((x1.length : Nat) : Int).toNat) (0 : Int)) true]⟩ (by kernel_rfl) ⟨trivial, hg84, trivial⟩ ?_
      refine WO_nil rfl ?_
      refine thenS_n ?_
      refine W_seq ?_
      refine W_region ?_
      refine WO_step 1 [0, 1] [0, 1, 6, 7] True ⟨[(0, .one (.e (.sl 0 0 x1.length))), (1, I i2), (6, .one (.e (.sl 1 0 ((List.replicate (((x1.length : Nat) : Int).toNat) (0 : Int)).length)))), (7, .one (.e (.nsl)))], [.row .nod x1 false, .row .int (List.replicate (((x1.length : Nat) : Int).toNat) (0 : Int)) true]⟩ (by kernel_rfl) trivial ?_
      refine WO_nilrow 7 .nod rfl ?_
      refine WO_sub [0, 1, 2] [0, 1, 6, 7] (st' := ⟨[(0, .one (.e (.sl 0 0 x1.length))), (1, I i2), (6, .one (.e (.sl 1 0 ((List.replicate (((x1.length : Nat) : Int).toNat) (0 : Int)).length)))), (7, .one (.e (.sl 2 0 (([] : List Nod).length))))], [.row .nod x1 false, .row .int (List.replicate (((x1.length : Nat) : Int).toNat) (0 : Int)) true, .row .nod ([] : List Nod) true]⟩) (by kernel_rfl) ?_
      refine WO_nil rfl ?_
      refine thenS_n ?_
      refine W_seq ?_
      refine W_seq ?_
      refine W_region ?_
      refine WO_step 3 [0, 1, 2] [0, 1, 6, 7, 21, 22, 23] (True ∧ True) ⟨[(0, .one (.e (.sl 0 0 x1.length))), (1, I i2), (6, .one (.e (.sl 1 0 ((List.replicate (((x1.length : Nat) : Int).toNat) (0 : Int)).length)))), (7, .one (.e (.sl 2 0 (([] : List Nod).length)))), (21, .one (.e (.sl 0 0 x1.length))), (22, I ((x1.length : Nat) : Int)), (23, I 0)], [.row .nod x1 false, .row .int (List.replicate (((x1.length : Nat) : Int).toNat) (0 : Int)) true, .row .nod ([] : List Nod) true]⟩ (by kernel_rfl) ⟨trivial, trivial⟩ ?_
      refine WO_nil rfl ?_
      refine thenS_n ?_
      refine W_block ?_
      refine W_loop ?_
      refine bindO_e h (fun x131 hx131 h => ?_)
      refine WL_cut (impl_DropNode_L1_ok w X θ x1 i2 x131 n (List.replicate (((x1.length : Nat) : Int).toNat) (0 : Int)) ([] : List Nod) 0 hx131) ?_
      rintro _ _ ⟨rfl, rfl⟩
      refine blockS_y ?_
      refine thenS_n ?_
      refine W_seq ?_
      refine W_region ?_
      refine WO_step 3 [0, 1] [4, 5] True ⟨[(4, .one (.e (.sl 1 0 x131.length))), (5, B true)], [.row .nod x1 false, .row .nod x131 true]⟩ (by kernel_rfl) trivial ?_
      refine WO_nil rfl ?_
      refine thenS_n ?_
      refine W_ret ?_
      cases h
      exact ⟨[0, 1], True, by kernel_rfl, trivial⟩

/- impl.SetValue -/
def impl_SetValue (n : Nat) (x1 : List Nod) (i2 : Int) (i3 : Int) : Option ((List Nod) × Bool) :=
 bindO (impl_isNode n x1 i2) fun b16 =>
 iteO ((!b16) || (!(impl_within i3 (-1000) 1000)))
 (some (([] : List Nod), false))
 (bindO (slices_Clone_Node x1) fun x23 =>
 guardO (0 ≤ i2 ∧ i2 < ((x23.length : Nat) : Int)) <|
 some ((x23.set i2.toNat (⟨(x23.getD i2.toNat dnod).parent, (x23.getD i2.toNat dnod).name, i3⟩ : Nod)), true))

theorem impl_SetValue_ok (n : Nat) (x1 : List Nod) (i2 : Int) (i3 : Int) (x14 : List Nod) (b15 : Bool) (h : impl_SetValue n x1 i2 i3 = some (x14, b15)) : FOk EE 58 [.one (.e (.sl 0 0 x1.length)), I i2, I i3] [.row .nod x1 false] (.tup [.e (.sl 1 0 x14.length), .e (cB b15)]) [.row .nod x1 false, .row .nod x14 true] := by
  unfold impl_SetValue at h
  refine FOk_of_W 26 1 Try.func58 rfl rfl (Nat.le_of_ble_eq_true rfl) rfl (fun w X θ => ?_)
  refine W_seq ?_
  refine W_region ?_
  refine WO_step 2 [0] [0, 1, 2] True ⟨[(0, .one (.e (.sl 0 0 x1.length))), (1, I i2), (2, I i3)], [.row .nod x1 false]⟩ (by kernel_rfl) trivial ?_
  refine WO_nil rfl ?_
  refine thenS_n ?_
  refine W_seq ?_
  refine W_seq ?_
  refine W_region ?_
  refine WO_step 2 [0] [0, 1, 2, 9, 10] True ⟨[(0, .one (.e (.sl 0 0 x1.length))), (1, I i2), (2, I i3), (9, .one (.e (.sl 0 0 x1.length))), (10, I i2)], [.row .nod x1 false]⟩ (by kernel_rfl) trivial ?_
  refine bindO_e h (fun b16 hc17 h => ?_)
  refine WO_call [.ro 0] Try.f46 rfl rfl rfl (by kernel_rfl) Try.func46 rfl (by kernel_rfl) (impl_isNode_ok n x1 i2 b16 hc17) (And.intro (And.intro rfl rfl) (trivial)) rfl ?_
  refine WO_step 2 [0] [0, 1, 2, 13] True ⟨[(0, .one (.e (.sl 0 0 x1.length))), (1, I i2), (2, I i3), (13, B (!b16))], [.row .nod x1 false]⟩ (by kernel_rfl) trivial ?_
  refine WO_thru ⟨[(0, .one (.e (.sl 0 0 x1.length))), (1, I i2), (2, I i3), (17, B ((!b16) || (!(impl_within i3 (-1000) 1000))))], [.row .nod x1 false]⟩ ?_ ?_
  · refine WO_if 13 rfl (fun hb20 => ?_) (fun hb20 => ?_)
    · refine WO_step 4 [0] [0, 1, 2, 17] True ⟨[(0, .one (.e (.sl 0 0 x1.length))), (1, I i2), (2, I i3), (17, B true)], [.row .nod x1 false]⟩ (by kernel_rfl) trivial ?_
      exact WO_nil rfl ⟨rfl, by first | rfl | (rw [hb20]; first | done | rfl)⟩
    · refine WO_step 1 [0] [0, 1, 2, 13, 14] True ⟨[(0, .one (.e (.sl 0 0 x1.length))), (1, I i2), (2, I i3), (13, B false), (14, I i3)], [.row .nod x1 false]⟩ (by kernel_rfl) trivial ?_
      refine WO_call [] Try.f37 rfl rfl rfl (by kernel_rfl) Try.func37 rfl (by kernel_rfl) (impl_within_ok i3 (-1000) 1000) (trivial) rfl ?_
      refine WO_step 2 [0] [0, 1, 2, 17] True ⟨[(0, .one (.e (.sl 0 0 x1.length))), (1, I i2), (2, I i3), (17, B (!(impl_within i3 (-1000) 1000)))], [.row .nod x1 false]⟩ (by kernel_rfl) trivial ?_
      exact WO_nil rfl ⟨rfl, by first | rfl | (rw [hb20]; first | done | rfl)⟩
  · refine thenS_n ?_
    refine iteO_e h (fun hb22 h => W_true rfl hb22 ?_) (fun hb22 h => W_false rfl hb22 ?_)
    · refine W_seq ?_
      refine W_region ?_
      refine WO_step 2 [0] [6, 7] True ⟨[(6, .one (.e (.nsl))), (7, B false)], [.row .nod x1 false]⟩ (by kernel_rfl) trivial ?_
      refine WO_nilrow 6 .nod rfl ?_
      refine WO_sub [0, 1] [6, 7] (st' := ⟨[(6, .one (.e (.sl 1 0 (([] : List Nod).length)))), (7, B false)], [.row .nod x1 false, .row .nod ([] : List Nod) true]⟩) (by kernel_rfl) ?_
      refine WO_nil rfl ?_
      refine thenS_n ?_
      refine W_ret ?_
      refine thenS_r ?_
      cases h
      exact ⟨[0, 1], True, by kernel_rfl, trivial⟩
    · refine W_sub [0] [0, 1, 2] (st' := ⟨[(0, .one (.e (.sl 0 0 x1.length))), (1, I i2), (2, I i3)], [.row .nod x1 false]⟩) (by kernel_rfl) ?_
      refine W_skip ?_
      refine thenS_n ?_
      refine W_seq ?_
      refine W_region ?_
      refine WO_step 1 [0] [1, 2, 18] True ⟨[(1, I i2), (2, I i3), (18, .one (.e (.sl 0 0 x1.length)))], [.row .nod x1 false]⟩ (by kernel_rfl) trivial ?_
      refine bindO_e h (fun x23 hc24 h => ?_)
      refine WO_call [.ro 0] Try.f40 rfl rfl rfl (by kernel_rfl) Try.func40 rfl (by kernel_rfl) (slices_Clone_Node_ok x1 x23 hc24) (And.intro (And.intro rfl rfl) (trivial)) rfl ?_
      refine WO_step 1 [0, 1] [1, 2, 8] True ⟨[(1, I i2), (2, I i3), (8, .one (.e (.sl 1 0 x23.length)))], [.row .nod x1 false, .row .nod x23 true]⟩ (by kernel_rfl) trivial ?_
      refine WO_nil rfl ?_
      refine thenS_n ?_
      refine W_seq ?_
      refine W_region ?_
      refine guardO_e h (fun hg25 h => ?_)
      refine WO_step 6 [0, 1] [8] ((0 ≤ i2 ∧ i2 < ((x23.length : Nat) : Int)) ∧ (True ∧ True)) ⟨[(8, .one (.e (.sl 1 0 x23.length)))], [.row .nod x1 false, .row .nod (x23.set i2.toNat (⟨(x23.getD i2.toNat dnod).parent, (x23.getD i2.toNat dnod).name, i3⟩ : Nod)) true]⟩ (by kernel_rfl) ⟨hg25, trivial, trivial⟩ ?_
      refine WO_eq (st' := ⟨[(8, .one (.e (.sl 1 0 ((x23.set i2.toNat (⟨(x23.getD i2.toNat dnod).parent, (x23.getD i2.toNat dnod).name, i3⟩ : Nod)).length))))], [.row .nod x1 false, .row .nod (x23.set i2.toNat (⟨(x23.getD i2.toNat dnod).parent, (x23.getD i2.toNat dnod).name, i3⟩ : Nod)) true]⟩) (by simp only [List.length_set]) ?_
      refine WO_nil rfl ?_
      refine thenS_n ?_
      refine W_seq ?_
      refine W_region ?_
      refine WO_step 3 [0, 1] [6, 7] True ⟨[(6, .one (.e (.sl 1 0 ((x23.set i2.toNat (⟨(x23.getD i2.toNat dnod).parent, (x23.getD i2.toNat dnod).name, i3⟩ : Nod)).length)))), (7, B true)], [.row .nod x1 false, .row .nod (x23.set i2.toNat (⟨(x23.getD i2.toNat dnod).parent, (x23.getD i2.toNat dnod).name, i3⟩ : Nod)) true]⟩ (by kernel_rfl) trivial ?_
      refine WO_nil rfl ?_
      refine thenS_n ?_
      refine W_ret ?_
      cases h
      exact ⟨[0, 1], True, by kernel_rfl, trivial⟩

/- bytealg.LastIndexByteString -/
def bytealg_LastIndexByteString_L1 (s1 : Str) (i2 : Int) : Nat → Int → Option ((Int) ⊕ (Unit))
| 0, _ => none
| n + 1, i48 =>
 iteO (decide (0 ≤ i48))
 (guardO (0 ≤ i48 ∧ i48 < ((s1.length : Nat) : Int)) <|
 iteO (decide (((s1.getD i48.toNat 0).toNat : Int) = i2))
 (some (.inl i48))
 (bytealg_LastIndexByteString_L1 s1 i2 n (w64 (i48 - 1))))
 (some (.inr ()))

theorem bytealg_LastIndexByteString_L1_ok (w : World) (X : Nat → Prop) (θ : List Loc) (s1 : Str) (i2 : Int) (v : (Int) ⊕ (Unit)) : ∀ (n : Nat) (i48 : Int), bytealg_LastIndexByteString_L1 s1 i2 n i48 = some v → WL EE ⟨w, X, θ, 19, 0⟩ (subC [1, 0, 1, 4, 4] (bodyC Try.f82)) (fun (e : Exit) (s : St) => (match v with | (.inl i58) => e = .ret ∧ s = ⟨[(4, I i58)], []⟩ | (.inr _) => e = .exit 0 ∧ s = ⟨[], []⟩ : Prop)) ⟨[(0, S s1), (1, U i2), (5, I i48)], []⟩ := by
  intro n
  induction n with
  | zero => intro _ h; exact none_e h
  | succ n ih =>
    intro i48 h
    rw [bytealg_LastIndexByteString_L1] at h
    refine WL_round ?_
    refine W_seq ?_
    refine W_seq ?_
    refine W_region ?_
    refine WO_step 2 [] [0, 1, 5, 10] (True ∧ True) ⟨[(0, S s1), (1, U i2), (5, I i48), (10, B (decide (0 ≤ i48)))], []⟩ (by kernel_rfl) ⟨trivial, trivial⟩ ?_
    refine WO_nil rfl ?_
    refine thenS_n ?_
    refine iteO_e h (fun hb61 h => W_true rfl hb61 ?_) (fun hb61 h => W_false rfl hb61 ?_)
    · refine W_sub [] [0, 1, 5] (st' := ⟨[(0, S s1), (1, U i2), (5, I i48)], []⟩) (by kernel_rfl) ?_
      refine W_skip ?_
      refine thenS_n ?_
      refine W_seq ?_
      refine W_block ?_
      refine W_seq ?_
      refine W_region ?_
      refine guardO_e h (fun hg65 h => ?_)
      refine WO_step 5 [] [0, 1, 5, 17] ((0 ≤ i48 ∧ i48 < ((s1.length : Nat) : Int)) ∧ (True ∧ True)) ⟨[(0, S s1), (1, U i2), (5, I i48), (17, B (decide (((s1.getD i48.toNat 0).toNat : Int) = i2)))], []⟩ (by kernel_rfl) ⟨hg65, trivial, trivial⟩ ?_
      refine WO_nil rfl ?_
      refine thenS_n ?_
      refine iteO_e h (fun hb67 h => W_true rfl hb67 ?_) (fun hb67 h => W_false rfl hb67 ?_)
      · refine W_seq ?_
        refine W_region ?_
        refine WO_step 2 [] [4] True ⟨[(4, I i48)], []⟩ (by kernel_rfl) trivial ?_
        refine WO_nil rfl ?_
        refine thenS_n ?_
        refine W_ret ?_
        refine blockS_r ?_
        refine thenS_r ?_
        refine thenS_r ?_
        cases h
        exact And.intro rfl rfl
      · refine W_sub [] [0, 1, 5] (st' := ⟨[(0, S s1), (1, U i2), (5, I i48)], []⟩) (by kernel_rfl) ?_
        refine W_skip ?_
        refine blockS_n ?_
        refine thenS_n ?_
        refine W_region ?_
        refine WO_step 3 [] [0, 1, 5] (True ∧ True) ⟨[(0, S s1), (1, U i2), (5, I (w64 (i48 - 1)))], []⟩ (by kernel_rfl) ⟨trivial, trivial⟩ ?_
        refine WO_nil rfl ?_
        refine thenS_n ?_
        exact ih _ h
    · refine W_sub [] [] (st' := ⟨[], []⟩) (by kernel_rfl) ?_
      refine W_exit ?_
      refine thenS_e ?_
      refine thenS_e ?_
      cases h
      exact And.intro rfl rfl

def bytealg_LastIndexByteString (n : Nat) (s1 : Str) (i2 : Int) : Option (Int) :=
 bindO (bytealg_LastIndexByteString_L1 s1 i2 n (w64 (((s1.length : Nat) : Int) - 1))) fun v68 =>
 match v68 with
 | (.inl i58) => (some i58)
 | (.inr _) => (some (-1))


theorem bytealg_LastIndexByteString_ok (n : Nat) (s1 : Str) (i2 : Int) (i35 : Int) (h : bytealg_LastIndexByteString n s1 i2 = some i35) : FOk EE 82 [S s1, U i2] [] (I i35) [] := by
  unfold bytealg_LastIndexByteString at h
  refine FOk_of_W 19 0 Try.func82 rfl rfl (Nat.le_of_ble_eq_true rfl) rfl (fun w X θ => ?_)
  refine W_seq ?_
  refine W_region ?_
  refine WO_step 1 [] [0, 1] True ⟨[(0, S s1), (1, U i2)], []⟩ (by kernel_rfl) trivial ?_
  refine WO_nil rfl ?_
  refine thenS_n ?_
  refine W_seq ?_
  refine W_seq ?_
  refine W_region ?_
  refine WO_step 4 [] [0, 1, 5] (True ∧ (True ∧ True)) ⟨[(0, S s1), (1, U i2), (5, I (w64 (((s1.length : Nat) : Int) - 1)))], []⟩ (by kernel_rfl) ⟨trivial, trivial, trivial⟩ ?_
  refine WO_nil rfl ?_
  refine thenS_n ?_
  refine W_block ?_
  refine W_loop ?_
  refine bindO_e h (fun v68 hv68 h => ?_)
  refine WL_cut (bytealg_LastIndexByteString_L1_ok w X θ s1 i2 v68 n (w64 (((s1.length : Nat) : Int) - 1)) hv68) ?_
  rcases v68 with i58 | _
  · rintro _ _ ⟨rfl, rfl⟩
    refine blockS_r ?_
    refine thenS_r ?_
    cases h
    exact ⟨[], True, by kernel_rfl, trivial⟩
  · rintro _ _ ⟨rfl, rfl⟩
    refine blockS_y ?_
    refine thenS_n ?_
    refine W_seq ?_
    refine W_region ?_
    refine WO_step 1 [] [4] True ⟨[(4, I (-1))], []⟩ (by kernel_rfl) trivial ?_
    refine WO_nil rfl ?_
    refine thenS_n ?_
    refine W_ret ?_
    cases h
    exact ⟨[], True, by kernel_rfl, trivial⟩

/- strings.LastIndexByte -/
def strings_LastIndexByte (n : Nat) (s1 : Str) (i2 : Int) : Option (Int) :=
 bindO (bytealg_LastIndexByteString n s1 i2) fun i6 =>
 some i6

theorem strings_LastIndexByte_ok (n : Nat) (s1 : Str) (i2 : Int) (i5 : Int) (h : strings_LastIndexByte n s1 i2 = some i5) : FOk EE 75 [S s1, U i2] [] (I i5) [] := by
  unfold strings_LastIndexByte at h
  refine FOk_of_W 8 0 Try.func75 rfl rfl (Nat.le_of_ble_eq_true rfl) rfl (fun w X θ => ?_)
  refine W_seq ?_
  refine W_region ?_
  refine WO_step 1 [] [0, 1] True ⟨[(0, S s1), (1, U i2)], []⟩ (by kernel_rfl) trivial ?_
  refine WO_nil rfl ?_
  refine thenS_n ?_
  refine W_seq ?_
  refine W_region ?_
  refine WO_step 2 [] [5, 6] True ⟨[(5, S s1), (6, U i2)], []⟩ (by kernel_rfl) trivial ?_
  refine bindO_e h (fun i6 hc7 h => ?_)
  refine WO_call [] Try.f82 rfl rfl rfl (by kernel_rfl) Try.func82 rfl (by kernel_rfl) (bytealg_LastIndexByteString_ok n s1 i2 i6 hc7) (trivial) rfl ?_
  refine WO_step 1 [] [4] True ⟨[(4, I i6)], []⟩ (by kernel_rfl) trivial ?_
  refine WO_nil rfl ?_
  refine thenS_n ?_
  refine W_ret ?_
  cases h
  exact ⟨[], True, by kernel_rfl, trivial⟩

/- impl.upperNode -/
def impl_upperNode (n : Nat) (x1 : List Nod) (s2 : Str) : Option (Int) :=
 bindO (strings_LastIndexByte n s2 47) fun i13 =>
 iteO (decide (i13 < 0))
 (some (-1))
 (iteO (decide (i13 = 0))
 (some 0)
 (guardO (0 ≤ i13 ∧ i13 ≤ ((s2.length : Nat) : Int)) <|
 bindO (impl_ResolvePath n x1 (s2.take i13.toNat)) fun i20 =>
 some i20))

theorem impl_upperNode_ok (n : Nat) (x1 : List Nod) (s2 : Str) (i12 : Int) (h : impl_upperNode n x1 s2 = some i12) : FOk EE 74 [.one (.e (.sl 0 0 x1.length)), S s2] [.row .nod x1 false] (I i12) [.row .nod x1 false] := by
  unfold impl_upperNode at h
  refine FOk_of_W 17 1 Try.func74 rfl rfl (Nat.le_of_ble_eq_true rfl) rfl (fun w X θ => ?_)
  refine W_seq ?_
  refine W_region ?_
  refine WO_step 1 [0] [0, 1] True ⟨[(0, .one (.e (.sl 0 0 x1.length))), (1, S s2)], [.row .nod x1 false]⟩ (by kernel_rfl) trivial ?_
  refine WO_nil rfl ?_
  refine thenS_n ?_
  refine W_seq ?_
  refine W_region ?_
  refine WO_step 1 [0] [0, 1, 6] True ⟨[(0, .one (.e (.sl 0 0 x1.length))), (1, S s2), (6, S s2)], [.row .nod x1 false]⟩ (by kernel_rfl) trivial ?_
  refine bindO_e h (fun i13 hc14 h => ?_)
  refine WO_call [] Try.f75 rfl rfl rfl (by kernel_rfl) Try.func75 rfl (by kernel_rfl) (strings_LastIndexByte_ok n s2 47 i13 hc14) (trivial) rfl ?_
  refine WO_step 1 [0] [0, 1, 5] True ⟨[(0, .one (.e (.sl 0 0 x1.length))), (1, S s2), (5, I i13)], [.row .nod x1 false]⟩ (by kernel_rfl) trivial ?_
  refine WO_nil rfl ?_
  refine thenS_n ?_
  refine W_seq ?_
  refine W_seq ?_
  refine W_region ?_
  refine WO_step 2 [0] [0, 1, 5, 9] (True ∧ True) ⟨[(0, .one (.e (.sl 0 0 x1.length))), (1, S s2), (5, I i13), (9, B (decide (i13 < 0)))], [.row .nod x1 false]⟩ (by kernel_rfl) ⟨trivial, trivial⟩ ?_
  refine WO_nil rfl ?_
  refine thenS_n ?_
  refine iteO_e h (fun hb16 h => W_true rfl hb16 ?_) (fun hb16 h => W_false rfl hb16 ?_)
  · refine W_seq ?_
    refine W_region ?_
    refine WO_step 1 [0] [4] True ⟨[(4, I (-1))], [.row .nod x1 false]⟩ (by kernel_rfl) trivial ?_
    refine WO_nil rfl ?_
    refine thenS_n ?_
    refine W_ret ?_
    refine thenS_r ?_
    cases h
    exact ⟨[0], True, by kernel_rfl, trivial⟩
  · refine W_sub [0] [0, 1, 5] (st' := ⟨[(0, .one (.e (.sl 0 0 x1.length))), (1, S s2), (5, I i13)], [.row .nod x1 false]⟩) (by kernel_rfl) ?_
    refine W_skip ?_
    refine thenS_n ?_
    refine W_seq ?_
    refine W_seq ?_
    refine W_region ?_
    refine WO_step 2 [0] [0, 1, 5, 11] (True ∧ True) ⟨[(0, .one (.e (.sl 0 0 x1.length))), (1, S s2), (5, I i13), (11, B (decide (i13 = 0)))], [.row .nod x1 false]⟩ (by kernel_rfl) ⟨trivial, trivial⟩ ?_
    refine WO_nil rfl ?_
    refine thenS_n ?_
    refine iteO_e h (fun hb18 h => W_true rfl hb18 ?_) (fun hb18 h => W_false rfl hb18 ?_)
    · refine W_seq ?_
      refine W_region ?_
      refine WO_step 1 [0] [4] True ⟨[(4, I 0)], [.row .nod x1 false]⟩ (by kernel_rfl) trivial ?_
      refine WO_nil rfl ?_
      refine thenS_n ?_
      refine W_ret ?_
      refine thenS_r ?_
      cases h
      exact ⟨[0], True, by kernel_rfl, trivial⟩
    · refine W_sub [0] [0, 1, 5] (st' := ⟨[(0, .one (.e (.sl 0 0 x1.length))), (1, S s2), (5, I i13)], [.row .nod x1 false]⟩) (by kernel_rfl) ?_
      refine W_skip ?_
      refine thenS_n ?_
      refine W_seq ?_
      refine W_region ?_
      refine guardO_e h (fun hg19 h => ?_)
      refine WO_step 4 [0] [12, 15] ((0 ≤ i13 ∧ i13 ≤ ((s2.length : Nat) : Int)) ∧ True) ⟨[(12, .one (.e (.sl 0 0 x1.length))), (15, S (s2.take i13.toNat))], [.row .nod x1 false]⟩ (by kernel_rfl) ⟨hg19, trivial⟩ ?_
      refine bindO_e h (fun i20 hc21 h => ?_)
      refine WO_call [.ro 0] Try.f29 rfl rfl rfl (by kernel_rfl) Try.func29 rfl (by kernel_rfl) (impl_ResolvePath_ok n x1 (s2.take i13.toNat) i20 hc21) (And.intro (And.intro rfl rfl) (trivial)) rfl ?_
      refine WO_step 1 [0] [4] True ⟨[(4, I i20)], [.row .nod x1 false]⟩ (by kernel_rfl) trivial ?_
      refine WO_nil rfl ?_
      refine thenS_n ?_
      refine W_ret ?_
      cases h
      exact ⟨[0], True, by kernel_rfl, trivial⟩

/- impl.AddNode -/
def impl_AddNode (n : Nat) (x1 : List Nod) (i2 : Int) (s3 : Str) (i4 : Int) : Option ((List Nod) × Int × Bool) :=
 bindO (impl_ValidTree n x1) fun b19 =>
 iteO (!b19)
 (some (([] : List Nod), (-1), false))
 (bindO (slices_Clone_Node x1) fun x23 =>
 guardO (0 = 0 ∧ x23.length = x23.length ∧ x23.length + (([(⟨i2, s3, i4⟩ : Nod)].drop 0).take ([(⟨i2, s3, i4⟩ : Nod)].length)).length ≤ 1099511627776) <|
 bindO (impl_ValidTree n (x23 ++ (([(⟨i2, s3, i4⟩ : Nod)].drop 0).take ([(⟨i2, s3, i4⟩ : Nod)].length)))) fun b26 =>
 iteO (!b26)
 (some (([] : List Nod), (-1), false))
 (some ((x23 ++ (([(⟨i2, s3, i4⟩ : Nod)].drop 0).take ([(⟨i2, s3, i4⟩ : Nod)].length))), ((x1.length : Nat) : Int), true)))

theorem impl_AddNode_ok (n : Nat) (x1 : List Nod) (i2 : Int) (s3 : Str) (i4 : Int) (x16 : List Nod) (i17 : Int) (b18 : Bool) (h : impl_AddNode n x1 i2 s3 i4 = some (x16, i17, b18)) : FOk EE 73 [.one (.e (.sl 0 0 x1.length)), I i2, S s3, I i4] [.row .nod x1 false] (.tup [.e (.sl 1 0 x16.length), .e (cI i17), .e (cB b18)]) [.row .nod x1 false, .row .nod x16 true] := by
  unfold impl_AddNode at h
  refine FOk_of_W 29 1 Try.func73 rfl rfl (Nat.le_of_ble_eq_true rfl) rfl (fun w X θ => ?_)
  refine W_seq ?_
  refine W_region ?_
  refine WO_step 3 [0] [0, 1, 2, 3] True ⟨[(0, .one (.e (.sl 0 0 x1.length))), (1, I i2), (2, S s3), (3, I i4)], [.row .nod x1 false]⟩ (by kernel_rfl) trivial ?_
  refine WO_nil rfl ?_
  refine thenS_n ?_
  refine W_seq ?_
  refine W_seq ?_
  refine W_region ?_
  refine WO_step 1 [0] [0, 1, 2, 3, 12] True ⟨[(0, .one (.e (.sl 0 0 x1.length))), (1, I i2), (2, S s3), (3, I i4), (12, .one (.e (.sl 0 0 x1.length)))], [.row .nod x1 false]⟩ (by kernel_rfl) trivial ?_
  refine bindO_e h (fun b19 hc20 h => ?_)
  refine WO_call [.ro 0] Try.f17 rfl rfl rfl (by kernel_rfl) Try.func17 rfl (by kernel_rfl) (impl_ValidTree_ok n x1 b19 hc20) (And.intro (And.intro rfl rfl) (trivial)) rfl ?_
  refine WO_step 1 [0] [0, 1, 2, 3, 14] True ⟨[(0, .one (.e (.sl 0 0 x1.length))), (1, I i2), (2, S s3), (3, I i4), (14, B (!b19))], [.row .nod x1 false]⟩ (by kernel_rfl) trivial ?_
  refine WO_nil rfl ?_
  refine thenS_n ?_
  refine iteO_e h (fun hb22 h => W_true rfl hb22 ?_) (fun hb22 h => W_false rfl hb22 ?_)
  · refine W_seq ?_
    refine W_region ?_
    refine WO_step 3 [0] [8, 9, 10] True ⟨[(8, .one (.e (.nsl))), (9, I (-1)), (10, B false)], [.row .nod x1 false]⟩ (by kernel_rfl) trivial ?_
    refine WO_nilrow 8 .nod rfl ?_
    refine WO_sub [0, 1] [8, 9, 10] (st' := ⟨[(8, .one (.e (.sl 1 0 (([] : List Nod).length)))), (9, I (-1)), (10, B false)], [.row .nod x1 false, .row .nod ([] : List Nod) true]⟩) (by kernel_rfl) ?_
    refine WO_nil rfl ?_
    refine thenS_n ?_
    refine W_ret ?_
    refine thenS_r ?_
    cases h
    exact ⟨[0, 1], True, by kernel_rfl, trivial⟩
  · refine W_sub [0] [0, 1, 2, 3] (st' := ⟨[(0, .one (.e (.sl 0 0 x1.length))), (1, I i2), (2, S s3), (3, I i4)], [.row .nod x1 false]⟩) (by kernel_rfl) ?_
    refine W_skip ?_
    refine thenS_n ?_
    refine W_seq ?_
    refine W_region ?_
    refine WO_step 1 [0] [0, 1, 2, 3, 15] True ⟨[(0, .one (.e (.sl 0 0 x1.length))), (1, I i2), (2, S s3), (3, I i4), (15, .one (.e (.sl 0 0 x1.length)))], [.row .nod x1 false]⟩ (by kernel_rfl) trivial ?_
    refine bindO_e h (fun x23 hc24 h => ?_)
    refine WO_call [.ro 0] Try.f40 rfl rfl rfl (by kernel_rfl) Try.func40 rfl (by kernel_rfl) (slices_Clone_Node_ok x1 x23 hc24) (And.intro (And.intro rfl rfl) (trivial)) rfl ?_
    refine guardO_e h (fun hg25 h => ?_)
    refine WO_step 7 [0, 3] [0, 11] ((0 = 0 ∧ x23.length = x23.length ∧ x23.length + (([(⟨i2, s3, i4⟩ : Nod)].drop 0).take ([(⟨i2, s3, i4⟩ : Nod)].length)).length ≤ 1099511627776) ∧ True) ⟨[(0, .one (.e (.sl 0 0 x1.length))), (11, .one (.e (.sl 1 0 ((x23 ++ (([(⟨i2, s3, i4⟩ : Nod)].drop 0).take ([(⟨i2, s3, i4⟩ : Nod)].length))).length))))], [.row .nod x1 false, .row .nod (x23 ++ (([(⟨i2, s3, i4⟩ : Nod)].drop 0).take ([(⟨i2, s3, i4⟩ : Nod)].length))) true]⟩ (by kernel_rfl) ⟨hg25, trivial⟩ ?_
    refine WO_nil rfl ?_
    refine thenS_n ?_
    refine W_seq ?_
    refine W_seq ?_
    refine W_region ?_
    refine WO_step 1 [0, 1] [0, 11, 23] True ⟨[(0, .one (.e (.sl 0 0 x1.length))), (11, .one (.e (.sl 1 0 ((x23 ++ (([(⟨i2, s3, i4⟩ : Nod)].drop 0).take ([(⟨i2, s3, i4⟩ : Nod)].length))).length)))), (23, .one (.e (.sl 1 0 ((x23 ++ (([(⟨i2, s3, i4⟩ : Nod)].drop 0).take ([(⟨i2, s3, i4⟩ : Nod)].length))).length))))], [.row .nod x1 false, .row .nod (x23 ++ (([(⟨i2, s3, i4⟩ : Nod)].drop 0).take ([(⟨i2, s3, i4⟩ : Nod)].length))) true]⟩ (by kernel_rfl) trivial ?_
    refine bindO_e h (fun b26 hc27 h => ?_)
    refine WO_call [.ro 1] Try.f17 rfl rfl rfl (by kernel_rfl) Try.func17 rfl (by kernel_rfl) (impl_ValidTree_ok n (x23 ++ (([(⟨i2, s3, i4⟩ : Nod)].drop 0).take ([(⟨i2, s3, i4⟩ : Nod)].length))) b26 hc27) (And.intro (And.intro rfl rfl) (trivial)) rfl ?_
    refine WO_step 1 [0, 1] [0, 11, 25] True ⟨[(0, .one (.e (.sl 0 0 x1.length))), (11, .one (.e (.sl 1 0 ((x23 ++ (([(⟨i2, s3, i4⟩ : Nod)].drop 0).take ([(⟨i2, s3, i4⟩ : Nod)].length))).length)))), (25, B (!b26))], [.row .nod x1 false, .row .nod (x23 ++ (([(⟨i2, s3, i4⟩ : Nod)].drop 0).take ([(⟨i2, s3, i4⟩ : Nod)].length))) true]⟩ (by kernel_rfl) trivial ?_
    refine WO_nil rfl ?_
    refine thenS_n ?_
    refine iteO_e h (fun hb29 h => W_true rfl hb29 ?_) (fun hb29 h => W_false rfl hb29 ?_)
    · refine W_seq ?_
      refine W_region ?_
      refine WO_step 3 [0] [8, 9, 10] True ⟨[(8, .one (.e (.nsl))), (9, I (-1)), (10, B false)], [.row .nod x1 false]⟩ (by kernel_rfl) trivial ?_
      refine WO_nilrow 8 .nod rfl ?_
      refine WO_sub [0, 1] [8, 9, 10] (st' := ⟨[(8, .one (.e (.sl 1 0 (([] : List Nod).length)))), (9, I (-1)), (10, B false)], [.row .nod x1 false, .row .nod ([] : List Nod) true]⟩) (by kernel_rfl) ?_
      refine WO_nil rfl ?_
      refine thenS_n ?_
      refine W_ret ?_
      refine thenS_r ?_
      cases h
      exact ⟨[0, 1], True, by kernel_rfl, trivial⟩
    · refine W_sub [0, 1] [0, 11] (st' := ⟨[(0, .one (.e (.sl 0 0 x1.length))), (11, .one (.e (.sl 1 0 ((x23 ++ (([(⟨i2, s3, i4⟩ : Nod)].drop 0).take ([(⟨i2, s3, i4⟩ : Nod)].length))).length))))], [.row .nod x1 false, .row .nod (x23 ++ (([(⟨i2, s3, i4⟩ : Nod)].drop 0).take ([(⟨i2, s3, i4⟩ : Nod)].length))) true]⟩) (by kernel_rfl) ?_
      refine W_skip ?_
      refine thenS_n ?_
      refine W_seq ?_
      refine W_region ?_
      refine WO_step 6 [0, 1] [8, 9, 10] (True ∧ True) ⟨[(8, .one (.e (.sl 1 0 ((x23 ++ (([(⟨i2, s3, i4⟩ : Nod)].drop 0).take ([(⟨i2, s3, i4⟩ : Nod)].length))).length)))), (9, I ((x1.length : Nat) : Int)), (10, B true)], [.row .nod x1 false, .row .nod (x23 ++ (([(⟨i2, s3, i4⟩ : Nod)].drop 0).take ([(⟨i2, s3, i4⟩ : Nod)].length))) true]⟩ (by kernel_rfl) ⟨trivial, trivial⟩ ?_
      refine WO_nil rfl ?_
      refine thenS_n ?_
      refine W_ret ?_
      cases h
      exact ⟨[0, 1], True, by kernel_rfl, trivial⟩

/- impl.addPath -/
def impl_addPath (n : Nat) (x1 : List Nod) (s2 : Str) (i3 : Int) : Option ((List Nod) × Bool) :=
 bindO (impl_upperNode n x1 s2) fun i26 =>
 bindO (strings_LastIndexByte n s2 47) fun i28 =>
 guardO (0 ≤ (w64 (i28 + 1)) ∧ (w64 (i28 + 1)) ≤ ((s2.length : Nat) : Int)) <|
 bindO (impl_AddNode n x1 i26 (s2.drop ((w64 (i28 + 1)).toNat)) i3) fun (x31, i32, b33) =>
 bindO (iteO (!b33)
 (some true)
 (bindO (impl_PathText n x31 i32) fun s41 =>
 some (!decide (s41 = s2)))) fun b38 =>
 iteO b38
 (some (([] : List Nod), false))
 (some (x31, true))

theorem impl_addPath_ok (n : Nat) (x1 : List Nod) (s2 : Str) (i3 : Int) (x24 : List Nod) (b25 : Bool) (h : impl_addPath n x1 s2 i3 = some (x24, b25)) : FOk EE 59 [.one (.e (.sl 0 0 x1.length)), S s2, I i3] [.row .nod x1 false] (.tup [.e (.sl 1 0 x24.length), .e (cB b25)]) [.row .nod x1 false, .row .nod x24 true] := by
  unfold impl_addPath at h
  refine FOk_of_W 36 1 Try.func59 rfl rfl (Nat.le_of_ble_eq_true rfl) rfl (fun w X θ => ?_)
  refine W_seq ?_
  refine W_region ?_
  refine WO_step 2 [0] [0, 1, 2] True ⟨[(0, .one (.e (.sl 0 0 x1.length))), (1, S s2), (2, I i3)], [.row .nod x1 false]⟩ (by kernel_rfl) trivial ?_
  refine WO_nil rfl ?_
  refine thenS_n ?_
  refine W_seq ?_
  refine W_region ?_
  refine WO_step 3 [0] [1, 2, 12, 13, 14] True ⟨[(1, S s2), (2, I i3), (12, .one (.e (.sl 0 0 x1.length))), (13, .one (.e (.sl 0 0 x1.length))), (14, S s2)], [.row .nod x1 false]⟩ (by kernel_rfl) trivial ?_
  refine bindO_e h (fun i26 hc27 h => ?_)
  refine WO_call [.ro 0] Try.f74 rfl rfl rfl (by kernel_rfl) Try.func74 rfl (by kernel_rfl) (impl_upperNode_ok n x1 s2 i26 hc27) (And.intro (And.intro rfl rfl) (trivial)) rfl ?_
  refine WO_step 2 [0] [1, 2, 12, 15, 16, 17] True ⟨[(1, S s2), (2, I i3), (12, .one (.e (.sl 0 0 x1.length))), (15, I i26), (16, S s2), (17, S s2)], [.row .nod x1 false]⟩ (by kernel_rfl) trivial ?_
  refine bindO_e h (fun i28 hc29 h => ?_)
  refine WO_call [] Try.f75 rfl rfl rfl (by kernel_rfl) Try.func75 rfl (by kernel_rfl) (strings_LastIndexByte_ok n s2 47 i28 hc29) (trivial) rfl ?_
  refine guardO_e h (fun hg30 h => ?_)
  refine WO_step 3 [0] [1, 12, 15, 20, 21] (True ∧ ((0 ≤ (w64 (i28 + 1)) ∧ (w64 (i28 + 1)) ≤ ((s2.length : Nat) : Int)) ∧ True)) ⟨[(1, S s2), (12, .one (.e (.sl 0 0 x1.length))), (15, I i26), (20, S (s2.drop ((w64 (i28 + 1)).toNat))), (21, I i3)], [.row .nod x1 false]⟩ (by kernel_rfl) ⟨trivial, hg30, trivial⟩ ?_
  refine bindO_e h (fun v45 hc34 h => ?_)
  obtain ⟨x31, i32, b33⟩ := v45
  refine WO_call [.ro 0] Try.f73 rfl rfl rfl (by kernel_rfl) Try.func73 rfl (by kernel_rfl) (impl_AddNode_ok n x1 i26 (s2.drop ((w64 (i28 + 1)).toNat)) i3 x31 i32 b33 hc34) (And.intro (And.intro rfl rfl) (trivial)) rfl ?_
  refine WO_step 7 [0, 1] [1, 8, 9, 10] True ⟨[(1, S s2), (8, .one (.e (.sl 1 0 x31.length))), (9, I i32), (10, B b33)], [.row .nod x1 false, .row .nod x31 true]⟩ (by kernel_rfl) trivial ?_
  refine WO_nil rfl ?_
  refine thenS_n ?_
  refine W_seq ?_
  refine W_seq ?_
  refine W_region ?_
  refine WO_step 3 [0, 1] [1, 8, 9, 28] True ⟨[(1, S s2), (8, .one (.e (.sl 1 0 x31.length))), (9, I i32), (28, B (!b33))], [.row .nod x1 false, .row .nod x31 true]⟩ (by kernel_rfl) trivial ?_
  refine bindO_e h (fun b38 hv39 h => ?_)
  refine WO_thru ⟨[(8, .one (.e (.sl 1 0 x31.length))), (34, B b38)], [.row .nod x1 false, .row .nod x31 true]⟩ ?_ ?_
  · refine iteO_e hv39 (fun hb40 hv39 => WO_known 28 true rfl hb40 ?_) (fun hb40 hv39 => WO_known 28 false rfl hb40 ?_)
    · refine WO_step 6 [0, 1] [8, 34] True ⟨[(8, .one (.e (.sl 1 0 x31.length))), (34, B true)], [.row .nod x1 false, .row .nod x31 true]⟩ (by kernel_rfl) trivial ?_
      cases hv39
      exact WO_nil rfl ⟨rfl, rfl⟩
    · refine WO_step 2 [0, 1] [1, 8, 28, 29, 30] True ⟨[(1, S s2), (8, .one (.e (.sl 1 0 x31.length))), (28, B false), (29, .one (.e (.sl 1 0 x31.length))), (30, I i32)], [.row .nod x1 false, .row .nod x31 true]⟩ (by kernel_rfl) trivial ?_
      refine bindO_e hv39 (fun s41 hc42 hv39 => ?_)
      refine WO_call [.ro 1] Try.f28 rfl rfl rfl (by kernel_rfl) Try.func28 rfl (by kernel_rfl) (impl_PathText_ok n x31 i32 s41 hc42) (And.intro (And.intro rfl rfl) (trivial)) rfl ?_
      refine WO_step 3 [0, 1] [8, 34] (True ∧ True) ⟨[(8, .one (.e (.sl 1 0 x31.length))), (34, B (!decide (s41 = s2)))], [.row .nod x1 false, .row .nod x31 true]⟩ (by kernel_rfl) ⟨trivial, trivial⟩ ?_
      cases hv39
      exact WO_nil rfl ⟨rfl, rfl⟩
  · refine thenS_n ?_
    refine iteO_e h (fun hb44 h => W_true rfl hb44 ?_) (fun hb44 h => W_false rfl hb44 ?_)
    · refine W_seq ?_
      refine W_region ?_
      refine WO_step 2 [0] [6, 7] True ⟨[(6, .one (.e (.nsl))), (7, B false)], [.row .nod x1 false]⟩ (by kernel_rfl) trivial ?_
      refine WO_nilrow 6 .nod rfl ?_
      refine WO_sub [0, 1] [6, 7] (st' := ⟨[(6, .one (.e (.sl 1 0 (([] : List Nod).length)))), (7, B false)], [.row .nod x1 false, .row .nod ([] : List Nod) true]⟩) (by kernel_rfl) ?_
      refine WO_nil rfl ?_
      refine thenS_n ?_
      refine W_ret ?_
      refine thenS_r ?_
      cases h
      exact ⟨[0, 1], True, by kernel_rfl, trivial⟩
    · refine W_sub [0, 1] [8] (st' := ⟨[(8, .one (.e (.sl 1 0 x31.length)))], [.row .nod x1 false, .row .nod x31 true]⟩) (by kernel_rfl) ?_
      refine W_skip ?_
      refine thenS_n ?_
      refine W_seq ?_
      refine W_region ?_
      refine WO_step 3 [0, 1] [6, 7] True ⟨[(6, .one (.e (.sl 1 0 x31.length))), (7, B true)], [.row .nod x1 false, .row .nod x31 true]⟩ (by kernel_rfl) trivial ?_
      refine WO_nil rfl ?_
      refine thenS_n ?_
      refine W_ret ?_
      cases h
      exact ⟨[0, 1], True, by kernel_rfl, trivial⟩

/- impl.applyEdit -/
def impl_applyEdit (n : Nat) (x1 : List Nod) (x2 : Edt) : Option ((List Nod) × Bool) :=
 bindO (impl_ResolvePath n x1 x2.path) fun i155 =>
 iteO (decide (x2.kind = 1))
 (iteO (!decide (x2.value = 0))
 (some (([] : List Nod), false))
 (bindO (impl_DropNode n x1 i155) fun (x271, b272) =>
 some (x271, b272)))
 (iteO (decide (x2.kind = 0))
 (iteO (decide (0 ≤ i155))
 (bindO (impl_SetValue n x1 i155 x2.value) fun (x297, b298) =>
 some (x297, b298))
 (bindO (impl_addPath n x1 x2.path x2.value) fun (x301, b302) =>
 some (x301, b302)))
 (some (([] : List Nod), false)))

theorem impl_applyEdit_ok (n : Nat) (x1 : List Nod) (x2 : Edt) (x153 : List Nod) (b154 : Bool) (h : impl_applyEdit n x1 x2 = some (x153, b154)) : FOk EE 41 [.one (.e (.sl 0 0 x1.length)), AGG [cI x2.kind, cS x2.path, cI x2.value]] [.row .nod x1 false] (.tup [.e (.sl 1 0 x153.length), .e (cB b154)]) [.row .nod x1 false, .row .nod x153 true] := by
  unfold impl_applyEdit at h
  refine FOk_of_W 42 1 Try.func41 rfl rfl (Nat.le_of_ble_eq_true rfl) rfl (fun w X θ => ?_)
  refine W_seq ?_
  refine W_region ?_
  refine WO_step 3 [0, 1] [0, 3] (True ∧ True) ⟨[(0, .one (.e (.sl 0 0 x1.length))), (3, .one (.e (.p 1 0)))], [.row .nod x1 false, .cells [cI x2.kind, cS x2.path, cI x2.value]]⟩ (by kernel_rfl) ⟨trivial, trivial⟩ ?_
  refine WO_nil rfl ?_
  refine thenS_n ?_
  refine W_seq ?_
  refine W_region ?_
  refine WO_step 3 [0, 1] [0, 3, 7, 9] (True ∧ True) ⟨[(0, .one (.e (.sl 0 0 x1.length))), (3, .one (.e (.p 1 0))), (7, .one (.e (.sl 0 0 x1.length))), (9, S x2.path)], [.row .nod x1 false, .cells [cI x2.kind, cS x2.path, cI x2.value]]⟩ (by kernel_rfl) ⟨trivial, trivial⟩ ?_
  refine bindO_e h (fun i155 hc156 h => ?_)
  refine WO_call [.ro 0] Try.f29 rfl rfl rfl (by kernel_rfl) Try.func29 rfl (by kernel_rfl) (impl_ResolvePath_ok n x1 x2.path i155 hc156) (And.intro (And.intro rfl rfl) (trivial)) rfl ?_
  refine WO_step 1 [0, 1] [0, 3, 6] True ⟨[(0, .one (.e (.sl 0 0 x1.length))), (3, .one (.e (.p 1 0))), (6, I i155)], [.row .nod x1 false, .cells [cI x2.kind, cS x2.path, cI x2.value]]⟩ (by kernel_rfl) trivial ?_
  refine WO_nil rfl ?_
  refine thenS_n ?_
  refine W_seq ?_
  refine W_seq ?_
  refine W_region ?_
  refine WO_step 2 [0, 1] [0, 3, 6, 12] (True ∧ True) ⟨[(0, .one (.e (.sl 0 0 x1.length))), (3, .one (.e (.p 1 0))), (6, I i155), (12, I x2.kind)], [.row .nod x1 false, .cells [cI x2.kind, cS x2.path, cI x2.value]]⟩ (by kernel_rfl) ⟨trivial, trivial⟩ ?_
  refine WO_nil rfl ?_
  refine thenS_n ?_
  refine W_block ?_
  refine W_seq ?_
  refine W_region ?_
  refine WO_step 2 [0, 1] [0, 3, 6, 12, 13] (True ∧ True) ⟨[(0, .one (.e (.sl 0 0 x1.length))), (3, .one (.e (.p 1 0))), (6, I i155), (12, I x2.kind), (13, B (decide (x2.kind = 1)))], [.row .nod x1 false, .cells [cI x2.kind, cS x2.path, cI x2.value]]⟩ (by kernel_rfl) ⟨trivial, trivial⟩ ?_
  refine WO_nil rfl ?_
  refine thenS_n ?_
  refine iteO_e h (fun hb268 h => W_true rfl hb268 ?_) (fun hb268 h => W_false rfl hb268 ?_)
  · refine W_seq ?_
    refine W_seq ?_
    refine W_region ?_
    refine WO_step 3 [0] [0, 6, 17] (True ∧ (True ∧ True)) ⟨[(0, .one (.e (.sl 0 0 x1.length))), (6, I i155), (17, B (!decide (x2.value = 0)))], [.row .nod x1 false]⟩ (by kernel_rfl) ⟨trivial, trivial, trivial⟩ ?_
    refine WO_nil rfl ?_
    refine thenS_n ?_
    refine iteO_e h (fun hb270 h => W_true rfl hb270 ?_) (fun hb270 h => W_false rfl hb270 ?_)
    · refine W_seq ?_
      refine W_region ?_
      refine WO_step 2 [0] [4, 5] True ⟨[(4, .one (.e (.nsl))), (5, B false)], [.row .nod x1 false]⟩ (by kernel_rfl) trivial ?_
      refine WO_nilrow 4 .nod rfl ?_
      refine WO_sub [0, 1] [4, 5] (st' := ⟨[(4, .one (.e (.sl 1 0 (([] : List Nod).length)))), (5, B false)], [.row .nod x1 false, .row .nod ([] : List Nod) true]⟩) (by kernel_rfl) ?_
      refine WO_nil rfl ?_
      refine thenS_n ?_
      refine W_ret ?_
      refine thenS_r ?_
      refine blockS_r ?_
      refine thenS_r ?_
      cases h
      exact ⟨[0, 1], True, by kernel_rfl, trivial⟩
    · refine W_sub [0] [0, 6] (st' := ⟨[(0, .one (.e (.sl 0 0 x1.length))), (6, I i155)], [.row .nod x1 false]⟩) (by kernel_rfl) ?_
      refine W_skip ?_
      refine thenS_n ?_
      refine W_seq ?_
      refine W_region ?_
      refine WO_step 2 [0] [18, 19] True ⟨[(18, .one (.e (.sl 0 0 x1.length))), (19, I i155)], [.row .nod x1 false]⟩ (by kernel_rfl) trivial ?_
      refine bindO_e h (fun v274 hc273 h => ?_)
      obtain ⟨x271, b272⟩ := v274
      refine WO_call [.ro 0] Try.f57 rfl rfl rfl (by kernel_rfl) Try.func57 rfl (by kernel_rfl) (impl_DropNode_ok n x1 i155 x271 b272 hc273) (And.intro (And.intro rfl rfl) (trivial)) rfl ?_
      refine WO_step 4 [0, 1] [4, 5] True ⟨[(4, .one (.e (.sl 1 0 x271.length))), (5, B b272)], [.row .nod x1 false, .row .nod x271 true]⟩ (by kernel_rfl) trivial ?_
      refine WO_nil rfl ?_
      refine thenS_n ?_
      refine W_ret ?_
      refine blockS_r ?_
      refine thenS_r ?_
      cases h
      exact ⟨[0, 1], True, by kernel_rfl, trivial⟩
  · refine W_seq ?_
    refine W_region ?_
    refine WO_step 2 [0, 1] [0, 3, 6, 23] (True ∧ True) ⟨[(0, .one (.e (.sl 0 0 x1.length))), (3, .one (.e (.p 1 0))), (6, I i155), (23, B (decide (x2.kind = 0)))], [.row .nod x1 false, .cells [cI x2.kind, cS x2.path, cI x2.value]]⟩ (by kernel_rfl) ⟨trivial, trivial⟩ ?_
    refine WO_nil rfl ?_
    refine thenS_n ?_
    refine iteO_e h (fun hb290 h => W_true rfl hb290 ?_) (fun hb290 h => W_false rfl hb290 ?_)
    · refine W_seq ?_
      refine W_seq ?_
      refine W_region ?_
      refine WO_step 2 [0, 1] [0, 3, 6, 26] (True ∧ True) ⟨[(0, .one (.e (.sl 0 0 x1.length))), (3, .one (.e (.p 1 0))), (6, I i155), (26, B (decide (0 ≤ i155)))], [.row .nod x1 false, .cells [cI x2.kind, cS x2.path, cI x2.value]]⟩ (by kernel_rfl) ⟨trivial, trivial⟩ ?_
      refine WO_nil rfl ?_
      refine thenS_n ?_
      refine iteO_e h (fun hb296 h => W_true rfl hb296 ?_) (fun hb296 h => W_false rfl hb296 ?_)
      · refine W_seq ?_
        refine W_region ?_
        refine WO_step 4 [0] [27, 28, 30] (True ∧ True) ⟨[(27, .one (.e (.sl 0 0 x1.length))), (28, I i155), (30, I x2.value)], [.row .nod x1 false]⟩ (by kernel_rfl) ⟨trivial, trivial⟩ ?_
        refine bindO_e h (fun v300 hc299 h => ?_)
        obtain ⟨x297, b298⟩ := v300
        refine WO_call [.ro 0] Try.f58 rfl rfl rfl (by kernel_rfl) Try.func58 rfl (by kernel_rfl) (impl_SetValue_ok n x1 i155 x2.value x297 b298 hc299) (And.intro (And.intro rfl rfl) (trivial)) rfl ?_
        refine WO_step 4 [0, 1] [4, 5] True ⟨[(4, .one (.e (.sl 1 0 x297.length))), (5, B b298)], [.row .nod x1 false, .row .nod x297 true]⟩ (by kernel_rfl) trivial ?_
        refine WO_nil rfl ?_
        refine thenS_n ?_
        refine W_ret ?_
        refine thenS_r ?_
        refine blockS_r ?_
        refine thenS_r ?_
        cases h
        exact ⟨[0, 1], True, by kernel_rfl, trivial⟩
      · refine W_sub [0, 1] [0, 3] (st' := ⟨[(0, .one (.e (.sl 0 0 x1.length))), (3, .one (.e (.p 1 0)))], [.row .nod x1 false, .cells [cI x2.kind, cS x2.path, cI x2.value]]⟩) (by kernel_rfl) ?_
        refine W_skip ?_
        refine thenS_n ?_
        refine W_seq ?_
        refine W_region ?_
        refine WO_step 5 [0] [34, 36, 38] (True ∧ (True ∧ True)) ⟨[(34, .one (.e (.sl 0 0 x1.length))), (36, S x2.path), (38, I x2.value)], [.row .nod x1 false]⟩ (by kernel_rfl) ⟨trivial, trivial, trivial⟩ ?_
        refine bindO_e h (fun v304 hc303 h => ?_)
        obtain ⟨x301, b302⟩ := v304
        refine WO_call [.ro 0] Try.f59 rfl rfl rfl (by kernel_rfl) Try.func59 rfl (by kernel_rfl) (impl_addPath_ok n x1 x2.path x2.value x301 b302 hc303) (And.intro (And.intro rfl rfl) (trivial)) rfl ?_
        refine WO_step 4 [0, 1] [4, 5] True ⟨[(4, .one (.e (.sl 1 0 x301.length))), (5, B b302)], [.row .nod x1 false, .row .nod x301 true]⟩ (by kernel_rfl) trivial ?_
        refine WO_nil rfl ?_
        refine thenS_n ?_
        refine W_ret ?_
        refine blockS_r ?_
        refine thenS_r ?_
        cases h
        exact ⟨[0, 1], True, by kernel_rfl, trivial⟩
    · refine W_sub [0] [] (st' := ⟨[], [.row .nod x1 false]⟩) (by kernel_rfl) ?_
      refine W_skip ?_
      refine blockS_n ?_
      refine thenS_n ?_
      refine W_seq ?_
      refine W_region ?_
      refine WO_step 2 [0] [4, 5] True ⟨[(4, .one (.e (.nsl))), (5, B false)], [.row .nod x1 false]⟩ (by kernel_rfl) trivial ?_
      refine WO_nilrow 4 .nod rfl ?_
      refine WO_sub [0, 1] [4, 5] (st' := ⟨[(4, .one (.e (.sl 1 0 (([] : List Nod).length)))), (5, B false)], [.row .nod x1 false, .row .nod ([] : List Nod) true]⟩) (by kernel_rfl) ?_
      refine WO_nil rfl ?_
      refine thenS_n ?_
      refine W_ret ?_
      cases h
      exact ⟨[0, 1], True, by kernel_rfl, trivial⟩

/- impl.ApplyEdits -/
def impl_ApplyEdits_L1 (x2 : List Edt) (x1 : List Nod) : Nat → (List Nod) → Int → Option ((Unit) ⊕ ((List Nod)))
| 0, _, _ => none
| n + 1, x105, i106 =>
 iteO (decide (i106 < ((x2.length : Nat) : Int)))
 (guardO (0 ≤ i106 ∧ i106 < ((x2.length : Nat) : Int)) <|
 bindO (impl_applyEdit n x105 (x2.getD i106.toNat dedt)) fun (x137, b138) =>
 iteO (!b138)
 (some (.inl ()))
 (impl_ApplyEdits_L1 x2 x1 n x137 (w64 (i106 + 1))))
 (some (.inr x105))

theorem impl_ApplyEdits_L1_ok (w : World) (X : Nat → Prop) (θ : List Loc) (x2 : List Edt) (x1 : List Nod) (v : (Unit) ⊕ ((List Nod))) : ∀ (n : Nat) (x105 : List Nod) (i106 : Int), impl_ApplyEdits_L1 x2 x1 n x105 i106 = some v → WL EE ⟨w, X, θ, 38, 2⟩ (subC [1, 1, 1, 0, 1, 4, 4] (bodyC Try.f18)) (fun (e : Exit) (s : St) => (match v with | (.inl _) => e = .ret ∧ s = ⟨[(4, .one (.e (.sl 2 0 (([] : List Nod).length)))), (5, B false)], [.row .nod x1 false, .row .edt x2 false, .row .nod ([] : List Nod) true]⟩ | (.inr x125) => e = .exit 0 ∧ s = ⟨[(6, .one (.e (.sl 2 0 x125.length)))], [.row .nod x1 false, .row .edt x2 false, .row .nod x125 true]⟩ : Prop)) ⟨[(6, .one (.e (.sl 2 0 x105.length))), (21, .one (.e (.sl 1 0 x2.length))), (22, I ((x2.length : Nat) : Int)), (23, I i106)], [.row .nod x1 false, .row .edt x2 false, .row .nod x105 true]⟩ := by
  intro n
  induction n with
  | zero => intro _ _ h; exact none_e h
  | succ n ih =>
    intro x105 i106 h
    rw [impl_ApplyEdits_L1] at h
    refine WL_round ?_
    refine W_seq ?_
    refine W_region ?_
    refine WO_step 1 [0, 1, 2] [6, 21, 22, 23, 24] (True ∧ True) ⟨[(6, .one (.e (.sl 2 0 x105.length))), (21, .one (.e (.sl 1 0 x2.length))), (22, I ((x2.length : Nat) : Int)), (23, I i106), (24, B (decide (i106 < ((x2.length : Nat) : Int))))], [.row .nod x1 false, .row .edt x2 false, .row .nod x105 true]⟩ (by kernel_rfl) ⟨trivial, trivial⟩ ?_
    refine WO_nil rfl ?_
    refine thenS_n ?_
    refine W_seq ?_
    refine iteO_e h (fun hb128 h => W_true rfl hb128 ?_) (fun hb128 h => W_false rfl hb128 ?_)
    · refine W_sub [0, 1, 2] [6, 21, 22, 23] (st' := ⟨[(6, .one (.e (.sl 2 0 x105.length))), (21, .one (.e (.sl 1 0 x2.length))), (22, I ((x2.length : Nat) : Int)), (23, I i106)], [.row .nod x1 false, .row .edt x2 false, .row .nod x105 true]⟩) (by kernel_rfl) ?_
      refine W_skip ?_
      refine thenS_n ?_
      refine W_seq ?_
      refine W_block ?_
      refine W_seq ?_
      refine W_region ?_
      refine guardO_e h (fun hg136 h => ?_)
      refine WO_step 4 [0, 1, 2, 3] [6, 8, 21, 22, 23] ((0 ≤ i106 ∧ i106 < ((x2.length : Nat) : Int)) ∧ (True ∧ (True ∧ (True ∧ True)))) ⟨[(6, .one (.e (.sl 2 0 x105.length))), (8, .one (.e (.p 3 0))), (21, .one (.e (.sl 1 0 x2.length))), (22, I ((x2.length : Nat) : Int)), (23, I i106)], [.row .nod x1 false, .row .edt x2 false, .row .nod x105 true, .cells [cI ((x2.getD i106.toNat dedt).kind), cS ((x2.getD i106.toNat dedt).path), cI ((x2.getD i106.toNat dedt).value)]]⟩ (by kernel_rfl) ⟨hg136, trivial, trivial, trivial, trivial⟩ ?_
      refine WO_nil rfl ?_
      refine thenS_n ?_
      refine W_seq ?_
      refine W_region ?_
      refine WO_step 2 [0, 1, 2] [21, 22, 23, 28, 29] (True ∧ True) ⟨[(21, .one (.e (.sl 1 0 x2.length))), (22, I ((x2.length : Nat) : Int)), (23, I i106), (28, .one (.e (.sl 2 0 x105.length))), (29, AGG [cI ((x2.getD i106.toNat dedt).kind), cS ((x2.getD i106.toNat dedt).path), cI ((x2.getD i106.toNat dedt).value)])], [.row .nod x1 false, .row .edt x2 false, .row .nod x105 true]⟩ (by kernel_rfl) ⟨trivial, trivial⟩ ?_
      refine bindO_e h (fun v142 hc139 h => ?_)
      obtain ⟨x137, b138⟩ := v142
      refine WO_call [.ro 2] Try.f41 rfl rfl rfl (by kernel_rfl) Try.func41 rfl (by kernel_rfl) (impl_applyEdit_ok n x105 (x2.getD i106.toNat dedt) x137 b138 hc139) (And.intro (And.intro rfl rfl) (trivial)) rfl ?_
      refine WO_step 5 [0, 1, 3] [9, 10, 21, 22, 23] True ⟨[(9, .one (.e (.sl 2 0 x137.length))), (10, B b138), (21, .one (.e (.sl 1 0 x2.length))), (22, I ((x2.length : Nat) : Int)), (23, I i106)], [.row .nod x1 false, .row .edt x2 false, .row .nod x137 true]⟩ (by kernel_rfl) trivial ?_
      refine WO_nil rfl ?_
      refine thenS_n ?_
      refine W_seq ?_
      refine W_seq ?_
      refine W_region ?_
      refine WO_step 2 [0, 1, 2] [9, 21, 22, 23, 34] True ⟨[(9, .one (.e (.sl 2 0 x137.length))), (21, .one (.e (.sl 1 0 x2.length))), (22, I ((x2.length : Nat) : Int)), (23, I i106), (34, B (!b138))], [.row .nod x1 false, .row .edt x2 false, .row .nod x137 true]⟩ (by kernel_rfl) trivial ?_
      refine WO_nil rfl ?_
      refine thenS_n ?_
      refine iteO_e h (fun hb141 h => W_true rfl hb141 ?_) (fun hb141 h => W_false rfl hb141 ?_)
      · refine W_seq ?_
        refine W_region ?_
        refine WO_step 2 [0, 1] [4, 5] True ⟨[(4, .one (.e (.nsl))), (5, B false)], [.row .nod x1 false, .row .edt x2 false]⟩ (by kernel_rfl) trivial ?_
        refine WO_nilrow 4 .nod rfl ?_
        refine WO_sub [0, 1, 2] [4, 5] (st' := ⟨[(4, .one (.e (.sl 2 0 (([] : List Nod).length)))), (5, B false)], [.row .nod x1 false, .row .edt x2 false, .row .nod ([] : List Nod) true]⟩) (by kernel_rfl) ?_
        refine WO_nil rfl ?_
        refine thenS_n ?_
        refine W_ret ?_
        refine thenS_r ?_
        refine blockS_r ?_
        refine thenS_r ?_
        refine thenS_r ?_
        cases h
        exact And.intro rfl rfl
      · refine W_sub [0, 1, 2] [9, 21, 22, 23] (st' := ⟨[(9, .one (.e (.sl 2 0 x137.length))), (21, .one (.e (.sl 1 0 x2.length))), (22, I ((x2.length : Nat) : Int)), (23, I i106)], [.row .nod x1 false, .row .edt x2 false, .row .nod x137 true]⟩) (by kernel_rfl) ?_
        refine W_skip ?_
        refine thenS_n ?_
        refine W_region ?_
        refine WO_step 2 [0, 1, 2] [6, 21, 22, 23] True ⟨[(6, .one (.e (.sl 2 0 x137.length))), (21, .one (.e (.sl 1 0 x2.length))), (22, I ((x2.length : Nat) : Int)), (23, I i106)], [.row .nod x1 false, .row .edt x2 false, .row .nod x137 true]⟩ (by kernel_rfl) trivial ?_
        refine WO_nil rfl ?_
        refine blockS_n ?_
        refine thenS_n ?_
        refine W_region ?_
        refine WO_step 2 [0, 1, 2] [6, 21, 22, 23] (True ∧ True) ⟨[(6, .one (.e (.sl 2 0 x137.length))), (21, .one (.e (.sl 1 0 x2.length))), (22, I ((x2.length : Nat) : Int)), (23, I (w64 (i106 + 1)))], [.row .nod x1 false, .row .edt x2 false, .row .nod x137 true]⟩ (by kernel_rfl) ⟨trivial, trivial⟩ ?_
        refine WO_nil rfl ?_
        refine thenS_n ?_
        exact ih _ _ h
    · refine W_sub [0, 1, 2] [6] (st' := ⟨[(6, .one (.e (.sl 2 0 x105.length)))], [.row .nod x1 false, .row .edt x2 false, .row .nod x105 true]⟩) (by kernel_rfl) ?_
      refine W_exit ?_
      refine thenS_e ?_
      refine thenS_e ?_
      cases h
      exact And.intro rfl rfl

def impl_ApplyEdits (n : Nat) (x1 : List Nod) (x2 : List Edt) : Option ((List Nod) × Bool) :=
 bindO (impl_ValidTree n x1) fun b74 =>
 iteO ((!b74) || (decide (24 < ((x2.length : Nat) : Int))))
 (some (([] : List Nod), false))
 (bindO (slices_Clone_Node x1) fun x81 =>
 bindO (impl_ApplyEdits_L1 x2 x1 n x81 0) fun v143 =>
 match v143 with
 | (.inl _) => (some (([] : List Nod), false))
 | (.inr x125) => (some (x125, true))
)

theorem impl_ApplyEdits_ok (n : Nat) (x1 : List Nod) (x2 : List Edt) (x72 : List Nod) (b73 : Bool) (h : impl_ApplyEdits n x1 x2 = some (x72, b73)) : FOk EE 18 [.one (.e (.sl 0 0 x1.length)), .one (.e (.sl 1 0 x2.length))] [.row .nod x1 false, .row .edt x2 false] (.tup [.e (.sl 2 0 x72.length), .e (cB b73)]) [.row .nod x1 false, .row .edt x2 false, .row .nod x72 true] := by
  unfold impl_ApplyEdits at h
  refine FOk_of_W 38 2 Try.func18 rfl rfl (Nat.le_of_ble_eq_true rfl) rfl (fun w X θ => ?_)
  refine W_seq ?_
  refine W_region ?_
  refine WO_step 2 [0, 1] [0, 1] True ⟨[(0, .one (.e (.sl 0 0 x1.length))), (1, .one (.e (.sl 1 0 x2.length)))], [.row .nod x1 false, .row .edt x2 false]⟩ (by kernel_rfl) trivial ?_
  refine WO_nil rfl ?_
  refine thenS_n ?_
  refine W_seq ?_
  refine W_seq ?_
  refine W_region ?_
  refine WO_step 1 [0, 1] [0, 1, 11] True ⟨[(0, .one (.e (.sl 0 0 x1.length))), (1, .one (.e (.sl 1 0 x2.length))), (11, .one (.e (.sl 0 0 x1.length)))], [.row .nod x1 false, .row .edt x2 false]⟩ (by kernel_rfl) trivial ?_
  refine bindO_e h (fun b74 hc75 h => ?_)
  refine WO_call [.ro 0] Try.f17 rfl rfl rfl (by kernel_rfl) Try.func17 rfl (by kernel_rfl) (impl_ValidTree_ok n x1 b74 hc75) (And.intro (And.intro rfl rfl) (trivial)) rfl ?_
  refine WO_step 2 [0, 1] [0, 1, 14] True ⟨[(0, .one (.e (.sl 0 0 x1.length))), (1, .one (.e (.sl 1 0 x2.length))), (14, B (!b74))], [.row .nod x1 false, .row .edt x2 false]⟩ (by kernel_rfl) trivial ?_
  refine WO_thru ⟨[(0, .one (.e (.sl 0 0 x1.length))), (1, .one (.e (.sl 1 0 x2.length))), (18, B ((!b74) || (decide (24 < ((x2.length : Nat) : Int)))))], [.row .nod x1 false, .row .edt x2 false]⟩ ?_ ?_
  · refine WO_if 14 rfl (fun hb78 => ?_) (fun hb78 => ?_)
    · refine WO_step 4 [0, 1] [0, 1, 18] True ⟨[(0, .one (.e (.sl 0 0 x1.length))), (1, .one (.e (.sl 1 0 x2.length))), (18, B true)], [.row .nod x1 false, .row .edt x2 false]⟩ (by kernel_rfl) trivial ?_
      exact WO_nil rfl ⟨rfl, by first | rfl | (rw [hb78]; first | done | rfl)⟩
    · refine WO_step 4 [0, 1] [0, 1, 18] (True ∧ (True ∧ True)) ⟨[(0, .one (.e (.sl 0 0 x1.length))), (1, .one (.e (.sl 1 0 x2.length))), (18, B (decide (24 < ((x2.length : Nat) : Int))))], [.row .nod x1 false, .row .edt x2 false]⟩ (by kernel_rfl) ⟨trivial, trivial, trivial⟩ ?_
      exact WO_nil rfl ⟨rfl, by first | rfl | (rw [hb78]; first | done | rfl)⟩
  · refine thenS_n ?_
    refine iteO_e h (fun hb80 h => W_true rfl hb80 ?_) (fun hb80 h => W_false rfl hb80 ?_)
    · refine W_seq ?_
      refine W_region ?_
      refine WO_step 2 [0, 1] [4, 5] True ⟨[(4, .one (.e (.nsl))), (5, B false)], [.row .nod x1 false, .row .edt x2 false]⟩ (by kernel_rfl) trivial ?_
      refine WO_nilrow 4 .nod rfl ?_
      refine WO_sub [0, 1, 2] [4, 5] (st' := ⟨[(4, .one (.e (.sl 2 0 (([] : List Nod).length)))), (5, B false)], [.row .nod x1 false, .row .edt x2 false, .row .nod ([] : List Nod) true]⟩) (by kernel_rfl) ?_
      refine WO_nil rfl ?_
      refine thenS_n ?_
      refine W_ret ?_
      refine thenS_r ?_
      cases h
      exact ⟨[0, 1, 2], True, by kernel_rfl, trivial⟩
    · refine W_sub [0, 1] [0, 1] (st' := ⟨[(0, .one (.e (.sl 0 0 x1.length))), (1, .one (.e (.sl 1 0 x2.length)))], [.row .nod x1 false, .row .edt x2 false]⟩) (by kernel_rfl) ?_
      refine W_skip ?_
      refine thenS_n ?_
      refine W_seq ?_
      refine W_region ?_
      refine WO_step 1 [0, 1] [1, 19] True ⟨[(1, .one (.e (.sl 1 0 x2.length))), (19, .one (.e (.sl 0 0 x1.length)))], [.row .nod x1 false, .row .edt x2 false]⟩ (by kernel_rfl) trivial ?_
      refine bindO_e h (fun x81 hc82 h => ?_)
      refine WO_call [.ro 0] Try.f40 rfl rfl rfl (by kernel_rfl) Try.func40 rfl (by kernel_rfl) (slices_Clone_Node_ok x1 x81 hc82) (And.intro (And.intro rfl rfl) (trivial)) rfl ?_
      refine WO_step 1 [0, 1, 2] [1, 6] True ⟨[(1, .one (.e (.sl 1 0 x2.length))), (6, .one (.e (.sl 2 0 x81.length)))], [.row .nod x1 false, .row .edt x2 false, .row .nod x81 true]⟩ (by kernel_rfl) trivial ?_
      refine WO_nil rfl ?_
      refine thenS_n ?_
      refine W_seq ?_
      refine W_seq ?_
      refine W_region ?_
      refine WO_step 3 [0, 1, 2] [6, 21, 22, 23] (True ∧ True) ⟨[(6, .one (.e (.sl 2 0 x81.length))), (21, .one (.e (.sl 1 0 x2.length))), (22, I ((x2.length : Nat) : Int)), (23, I 0)], [.row .nod x1 false, .row .edt x2 false, .row .nod x81 true]⟩ (by kernel_rfl) ⟨trivial, trivial⟩ ?_
      refine WO_nil rfl ?_
      refine thenS_n ?_
      refine W_block ?_
      refine W_loop ?_
      refine bindO_e h (fun v143 hv143 h => ?_)
      refine WL_cut (impl_ApplyEdits_L1_ok w X θ x2 x1 v143 n x81 0 hv143) ?_
      rcases v143 with _ | x125
      · rintro _ _ ⟨rfl, rfl⟩
        refine blockS_r ?_
        refine thenS_r ?_
        cases h
        exact ⟨[0, 1, 2], True, by kernel_rfl, trivial⟩
      · rintro _ _ ⟨rfl, rfl⟩
        refine blockS_y ?_
        refine thenS_n ?_
        refine W_seq ?_
        refine W_region ?_
        refine WO_step 3 [0, 1, 2] [4, 5] True ⟨[(4, .one (.e (.sl 2 0 x125.length))), (5, B true)], [.row .nod x1 false, .row .edt x2 false, .row .nod x125 true]⟩ (by kernel_rfl) trivial ?_
        refine WO_nil rfl ?_
        refine thenS_n ?_
        refine W_ret ?_
        cases h
        exact ⟨[0, 1, 2], True, by kernel_rfl, trivial⟩

/- impl.SameTree -/
def impl_SameTree_L1 (x1 : List Nod) (x2 : List Nod) : Nat → Int → Option ((Unit) ⊕ (Unit))
| 0, _ => none
| n + 1, i137 =>
 iteO (decide (i137 < ((x1.length : Nat) : Int)))
 (bindO (impl_PathText n x1 i137) fun s177 =>
 bindO (impl_ResolvePath n x2 s177) fun i179 =>
 bindO (iteO (decide (i179 < 0))
 (some true)
 (guardO (0 ≤ i137 ∧ i137 < ((x1.length : Nat) : Int)) <|
 guardO (0 ≤ i179 ∧ i179 < ((x2.length : Nat) : Int)) <|
 some (!decide (((x1.getD i137.toNat dnod).value) = ((x2.getD i179.toNat dnod).value))))) fun b184 =>
 iteO b184
 (some (.inl ()))
 (impl_SameTree_L1 x1 x2 n (w64 (i137 + 1))))
 (some (.inr ()))

theorem impl_SameTree_L1_ok (w : World) (X : Nat → Prop) (θ : List Loc) (x1 : List Nod) (x2 : List Nod) (v : (Unit) ⊕ (Unit)) : ∀ (n : Nat) (i137 : Int), impl_SameTree_L1 x1 x2 n i137 = some v → WL EE ⟨w, X, θ, 48, 2⟩ (subC [1, 1, 0, 1, 4, 4] (bodyC Try.f19)) (fun (e : Exit) (s : St) => (match v with | (.inl _) => e = .ret ∧ s = ⟨[(4, B false)], [.row .nod x1 false, .row .nod x2 false]⟩ | (.inr _) => e = .exit 0 ∧ s = ⟨[], [.row .nod x1 false, .row .nod x2 false]⟩ : Prop)) ⟨[(0, .one (.e (.sl 0 0 x1.length))), (1, .one (.e (.sl 1 0 x2.length))), (23, I ((x1.length : Nat) : Int)), (24, I i137)], [.row .nod x1 false, .row .nod x2 false]⟩ := by
  intro n
  induction n with
  | zero => intro _ h; exact none_e h
  | succ n ih =>
    intro i137 h
    rw [impl_SameTree_L1] at h
    refine WL_round ?_
    refine W_seq ?_
    refine W_region ?_
    refine WO_step 1 [0, 1] [0, 1, 23, 24, 25] (True ∧ True) ⟨[(0, .one (.e (.sl 0 0 x1.length))), (1, .one (.e (.sl 1 0 x2.length))), (23, I ((x1.length : Nat) : Int)), (24, I i137), (25, B (decide (i137 < ((x1.length : Nat) : Int))))], [.row .nod x1 false, .row .nod x2 false]⟩ (by kernel_rfl) ⟨trivial, trivial⟩ ?_
    refine WO_nil rfl ?_
    refine thenS_n ?_
    refine W_seq ?_
    refine iteO_e h (fun hb165 h => W_true rfl hb165 ?_) (fun hb165 h => W_false rfl hb165 ?_)
    · refine W_sub [0, 1] [0, 1, 23, 24] (st' := ⟨[(0, .one (.e (.sl 0 0 x1.length))), (1, .one (.e (.sl 1 0 x2.length))), (23, I ((x1.length : Nat) : Int)), (24, I i137)], [.row .nod x1 false, .row .nod x2 false]⟩) (by kernel_rfl) ?_
      refine W_skip ?_
      refine thenS_n ?_
      refine W_seq ?_
      refine W_block ?_
      refine W_seq ?_
      refine W_region ?_
      refine WO_step 2 [0, 1] [0, 1, 5, 23, 24] True ⟨[(0, .one (.e (.sl 0 0 x1.length))), (1, .one (.e (.sl 1 0 x2.length))), (5, I i137), (23, I ((x1.length : Nat) : Int)), (24, I i137)], [.row .nod x1 false, .row .nod x2 false]⟩ (by kernel_rfl) trivial ?_
      refine WO_nil rfl ?_
      refine thenS_n ?_
      refine W_seq ?_
      refine W_region ?_
      refine WO_step 3 [0, 1] [0, 1, 5, 23, 24, 27, 28, 29] True ⟨[(0, .one (.e (.sl 0 0 x1.length))), (1, .one (.e (.sl 1 0 x2.length))), (5, I i137), (23, I ((x1.length : Nat) : Int)), (24, I i137), (27, .one (.e (.sl 1 0 x2.length))), (28, .one (.e (.sl 0 0 x1.length))), (29, I i137)], [.row .nod x1 false, .row .nod x2 false]⟩ (by kernel_rfl) trivial ?_
      refine bindO_e h (fun s177 hc178 h => ?_)
      refine WO_call [.ro 0] Try.f28 rfl rfl rfl (by kernel_rfl) Try.func28 rfl (by kernel_rfl) (impl_PathText_ok n x1 i137 s177 hc178) (And.intro (And.intro rfl rfl) (trivial)) rfl ?_
      refine WO_sub [0, 1] [0, 1, 5, 23, 24, 27, 30] (st' := ⟨[(0, .one (.e (.sl 0 0 x1.length))), (1, .one (.e (.sl 1 0 x2.length))), (5, I i137), (23, I ((x1.length : Nat) : Int)), (24, I i137), (27, .one (.e (.sl 1 0 x2.length))), (30, S s177)], [.row .nod x1 false, .row .nod x2 false]⟩) (by kernel_rfl) ?_
      refine bindO_e h (fun i179 hc180 h => ?_)
      refine WO_call [.ro 1] Try.f29 rfl rfl rfl (by kernel_rfl) Try.func29 rfl (by kernel_rfl) (impl_ResolvePath_ok n x2 s177 i179 hc180) (And.intro (And.intro rfl rfl) (trivial)) rfl ?_
      refine WO_step 1 [0, 1] [0, 1, 5, 6, 23, 24] True ⟨[(0, .one (.e (.sl 0 0 x1.length))), (1, .one (.e (.sl 1 0 x2.length))), (5, I i137), (6, I i179), (23, I ((x1.length : Nat) : Int)), (24, I i137)], [.row .nod x1 false, .row .nod x2 false]⟩ (by kernel_rfl) trivial ?_
      refine WO_nil rfl ?_
      refine thenS_n ?_
      refine W_seq ?_
      refine bindO_e h (fun b184 hv185 h => ?_)
      refine W_cut (Q' := fun (e : Exit) (s : St) => e = .normal ∧ s = ⟨[(0, .one (.e (.sl 0 0 x1.length))), (1, .one (.e (.sl 1 0 x2.length))), (23, I ((x1.length : Nat) : Int)), (24, I i137), (46, B b184)], [.row .nod x1 false, .row .nod x2 false]⟩) ?_ ?_
      · refine iteO_e hv185 (fun hb181 hv185 => ?_) (fun hb181 hv185 => ?_)
        · refine W_draw [] true (by kernel_rfl) (by kernel_rfl) ?_
          refine WD_takeK [0, 1, 2] [0, 1, 5, 6, 23, 24, 34] [0, 1, 5, 6, 23, 24, 34] (φ := (True ∧ True ∧ True)) (ls' := #[true, true, true, false, false, false, false, false, false, false, false, false, false, false, false]) (Ts' := [(0, .one (.e (.sl 0 0 x1.length))), (1, .one (.e (.sl 1 0 x2.length))), (5, I i137), (6, I i179), (23, I ((x1.length : Nat) : Int)), (24, I i137), (34, B (decide (i179 < 0)))]) (st' := ⟨[(0, .one (.e (.sl 0 0 x1.length))), (1, .one (.e (.sl 1 0 x2.length))), (5, I i137), (6, I i179), (23, I ((x1.length : Nat) : Int)), (24, I i137), (34, B (decide (i179 < 0)))], [.row .nod x1 false, .row .nod x2 false]⟩) (n2 := 12) (by kernel_rfl) ⟨trivial, trivial, trivial⟩ rfl ?_
          refine WD_known 34 true rfl rfl hb181 ?_
          refine WD_takeK [3, 4, 5, 6, 7, 8, 9, 10, 11, 12, 13, 14] [0, 1, 23, 24, 46] [0, 1, 23, 24, 46] (φ := True) (ls' := #[true, true, true, true, true, true, true, true, true, true, true, true, true, true, true]) (Ts' := [(0, .one (.e (.sl 0 0 x1.length))), (1, .one (.e (.sl 1 0 x2.length))), (23, I ((x1.length : Nat) : Int)), (24, I i137), (46, B true)]) (st' := ⟨[(0, .one (.e (.sl 0 0 x1.length))), (1, .one (.e (.sl 1 0 x2.length))), (23, I ((x1.length : Nat) : Int)), (24, I i137), (46, B true)], [.row .nod x1 false, .row .nod x2 false]⟩) (n2 := 0) (by kernel_rfl) trivial rfl ?_
          exact WD_done [0, 1] [0, 1, 23, 24, 46] (st' := ⟨[(0, .one (.e (.sl 0 0 x1.length))), (1, .one (.e (.sl 1 0 x2.length))), (23, I ((x1.length : Nat) : Int)), (24, I i137), (46, B true)], [.row .nod x1 false, .row .nod x2 false]⟩) (by kernel_rfl) (by kernel_rfl) (And.intro rfl (by cases hv185; rfl))
        · refine guardO_e hv185 (fun hg182 hv185 => ?_)
          refine guardO_e hv185 (fun hg183 hv185 => ?_)
          refine W_draw [] true (by kernel_rfl) (by kernel_rfl) ?_
          refine WD_takeK [0, 1, 2] [0, 1, 5, 6, 23, 24, 34] [0, 1, 5, 6, 23, 24, 34] (φ := (True ∧ True ∧ True)) (ls' := #[true, true, true, false, false, false, false, false, false, false, false, false, false, false, false]) (Ts' := [(0, .one (.e (.sl 0 0 x1.length))), (1, .one (.e (.sl 1 0 x2.length))), (5, I i137), (6, I i179), (23, I ((x1.length : Nat) : Int)), (24, I i137), (34, B (decide (i179 < 0)))]) (st' := ⟨[(0, .one (.e (.sl 0 0 x1.length))), (1, .one (.e (.sl 1 0 x2.length))), (5, I i137), (6, I i179), (23, I ((x1.length : Nat) : Int)), (24, I i137), (34, B (decide (i179 < 0)))], [.row .nod x1 false, .row .nod x2 false]⟩) (n2 := 12) (by kernel_rfl) ⟨trivial, trivial, trivial⟩ rfl ?_
          refine WD_known 34 false rfl rfl hb181 ?_
          refine WD_takeK [3, 4, 5, 6, 7, 8, 9, 10, 11, 12, 13, 14] [0, 1, 23, 24, 46] [0, 1, 23, 24, 46] (φ := ((0 ≤ i137 ∧ i137 < ((x1.length : Nat) : Int)) ∧ (0 ≤ i137 ∧ i137 < ((x1.length : Nat) : Int)) ∧ (True ∧ True ∧ ((0 ≤ i179 ∧ i179 < ((x2.length : Nat) : Int)) ∧ (0 ≤ i179 ∧ i179 < ((x2.length : Nat) : Int)) ∧ (True ∧ True ∧ (True ∧ True ∧ True)))))) (ls' := #[true, true, true, true, true, true, true, true, true, true, true, true, true, true, true]) (Ts' := [(0, .one (.e (.sl 0 0 x1.length))), (1, .one (.e (.sl 1 0 x2.length))), (23, I ((x1.length : Nat) : Int)), (24, I i137), (46, B (!decide (((x1.getD i137.toNat dnod).value) = ((x2.getD i179.toNat dnod).value))))]) (st' := ⟨[(0, .one (.e (.sl 0 0 x1.length))), (1, .one (.e (.sl 1 0 x2.length))), (23, I ((x1.length : Nat) : Int)), (24, I i137), (46, B (!decide (((x1.getD i137.toNat dnod).value) = ((x2.getD i179.toNat dnod).value))))], [.row .nod x1 false, .row .nod x2 false]⟩) (n2 := 0) (by kernel_rfl) ⟨hg182, hg182, trivial, trivial, hg183, hg183, trivial, trivial, trivial, trivial, trivial⟩ rfl ?_
          exact WD_done [0, 1] [0, 1, 23, 24, 46] (st' := ⟨[(0, .one (.e (.sl 0 0 x1.length))), (1, .one (.e (.sl 1 0 x2.length))), (23, I ((x1.length : Nat) : Int)), (24, I i137), (46, B (!decide (((x1.getD i137.toNat dnod).value) = ((x2.getD i179.toNat dnod).value))))], [.row .nod x1 false, .row .nod x2 false]⟩) (by kernel_rfl) (by kernel_rfl) (And.intro rfl (by cases hv185; rfl))
      · rintro _ _ ⟨rfl, rfl⟩
        refine thenS_n ?_
        refine iteO_e h (fun hb187 h => W_true rfl hb187 ?_) (fun hb187 h => W_false rfl hb187 ?_)
        · refine W_seq ?_
          refine W_region ?_
          refine WO_step 1 [0, 1] [4] True ⟨[(4, B false)], [.row .nod x1 false, .row .nod x2 false]⟩ (by kernel_rfl) trivial ?_
          refine WO_nil rfl ?_
          refine thenS_n ?_
          refine W_ret ?_
          refine blockS_r ?_
          refine thenS_r ?_
          refine thenS_r ?_
          cases h
          exact And.intro rfl rfl
        · refine W_sub [0, 1] [0, 1, 23, 24] (st' := ⟨[(0, .one (.e (.sl 0 0 x1.length))), (1, .one (.e (.sl 1 0 x2.length))), (23, I ((x1.length : Nat) : Int)), (24, I i137)], [.row .nod x1 false, .row .nod x2 false]⟩) (by kernel_rfl) ?_
          refine W_skip ?_
          refine blockS_n ?_
          refine thenS_n ?_
          refine W_region ?_
          refine WO_step 2 [0, 1] [0, 1, 23, 24] (True ∧ True) ⟨[(0, .one (.e (.sl 0 0 x1.length))), (1, .one (.e (.sl 1 0 x2.length))), (23, I ((x1.length : Nat) : Int)), (24, I (w64 (i137 + 1)))], [.row .nod x1 false, .row .nod x2 false]⟩ (by kernel_rfl) ⟨trivial, trivial⟩ ?_
          refine WO_nil rfl ?_
          refine thenS_n ?_
          exact ih _ h
    · refine W_sub [0, 1] [] (st' := ⟨[], [.row .nod x1 false, .row .nod x2 false]⟩) (by kernel_rfl) ?_
      refine W_exit ?_
      refine thenS_e ?_
      refine thenS_e ?_
      cases h
      exact And.intro rfl rfl

def impl_SameTree (n : Nat) (x1 : List Nod) (x2 : List Nod) : Option (Bool) :=
 bindO (impl_ValidTree n x1) fun b96 =>
 bindO (iteO (!b96)
 (some true)
 (bindO (impl_ValidTree n x2) fun b105 =>
 iteO (!b105)
 (some true)
 (some (!decide (((x1.length : Nat) : Int) = ((x2.length : Nat) : Int)))))) fun b102 =>
 iteO b102
 (some false)
 (bindO (impl_SameTree_L1 x1 x2 n 0) fun v188 =>
 match v188 with
 | (.inl _) => (some false)
 | (.inr _) => (some true)
)

theorem impl_SameTree_ok (n : Nat) (x1 : List Nod) (x2 : List Nod) (b95 : Bool) (h : impl_SameTree n x1 x2 = some b95) : FOk EE 19 [.one (.e (.sl 0 0 x1.length)), .one (.e (.sl 1 0 x2.length))] [.row .nod x1 false, .row .nod x2 false] (B b95) [.row .nod x1 false, .row .nod x2 false] := by
  unfold impl_SameTree at h
  refine FOk_of_W 48 2 Try.func19 rfl rfl (Nat.le_of_ble_eq_true rfl) rfl (fun w X θ => ?_)
  refine W_seq ?_
  refine W_region ?_
  refine WO_step 1 [0, 1] [0, 1] True ⟨[(0, .one (.e (.sl 0 0 x1.length))), (1, .one (.e (.sl 1 0 x2.length)))], [.row .nod x1 false, .row .nod x2 false]⟩ (by kernel_rfl) trivial ?_
  refine WO_nil rfl ?_
  refine thenS_n ?_
  refine W_seq ?_
  refine W_seq ?_
  refine W_region ?_
  refine WO_step 1 [0, 1] [0, 1, 7] True ⟨[(0, .one (.e (.sl 0 0 x1.length))), (1, .one (.e (.sl 1 0 x2.length))), (7, .one (.e (.sl 0 0 x1.length)))], [.row .nod x1 false, .row .nod x2 false]⟩ (by kernel_rfl) trivial ?_
  refine bindO_e h (fun b96 hc97 h => ?_)
  refine WO_call [.ro 0] Try.f17 rfl rfl rfl (by kernel_rfl) Try.func17 rfl (by kernel_rfl) (impl_ValidTree_ok n x1 b96 hc97) (And.intro (And.intro rfl rfl) (trivial)) rfl ?_
  refine WO_step 2 [0, 1] [0, 1, 10] True ⟨[(0, .one (.e (.sl 0 0 x1.length))), (1, .one (.e (.sl 1 0 x2.length))), (10, B (!b96))], [.row .nod x1 false, .row .nod x2 false]⟩ (by kernel_rfl) trivial ?_
  refine bindO_e h (fun b102 hv103 h => ?_)
  refine WO_thru ⟨[(0, .one (.e (.sl 0 0 x1.length))), (1, .one (.e (.sl 1 0 x2.length))), (21, B b102)], [.row .nod x1 false, .row .nod x2 false]⟩ ?_ ?_
  · refine iteO_e hv103 (fun hb104 hv103 => WO_known 10 true rfl hb104 ?_) (fun hb104 hv103 => WO_known 10 false rfl hb104 ?_)
    · refine WO_step 11 [0, 1] [0, 1, 21] True ⟨[(0, .one (.e (.sl 0 0 x1.length))), (1, .one (.e (.sl 1 0 x2.length))), (21, B true)], [.row .nod x1 false, .row .nod x2 false]⟩ (by kernel_rfl) trivial ?_
      cases hv103
      exact WO_nil rfl ⟨rfl, rfl⟩
    · refine WO_step 1 [0, 1] [0, 1, 10, 11] True ⟨[(0, .one (.e (.sl 0 0 x1.length))), (1, .one (.e (.sl 1 0 x2.length))), (10, B false), (11, .one (.e (.sl 1 0 x2.length)))], [.row .nod x1 false, .row .nod x2 false]⟩ (by kernel_rfl) trivial ?_
      refine bindO_e hv103 (fun b105 hc106 hv103 => ?_)
      refine WO_call [.ro 1] Try.f17 rfl rfl rfl (by kernel_rfl) Try.func17 rfl (by kernel_rfl) (impl_ValidTree_ok n x2 b105 hc106) (And.intro (And.intro rfl rfl) (trivial)) rfl ?_
      refine WO_step 3 [0, 1] [0, 1, 15] True ⟨[(0, .one (.e (.sl 0 0 x1.length))), (1, .one (.e (.sl 1 0 x2.length))), (15, B (!b105))], [.row .nod x1 false, .row .nod x2 false]⟩ (by kernel_rfl) trivial ?_
      refine iteO_e hv103 (fun hb107 hv103 => WO_known 15 true rfl hb107 ?_) (fun hb107 hv103 => WO_known 15 false rfl hb107 ?_)
      · refine WO_step 6 [0, 1] [0, 1, 21] True ⟨[(0, .one (.e (.sl 0 0 x1.length))), (1, .one (.e (.sl 1 0 x2.length))), (21, B true)], [.row .nod x1 false, .row .nod x2 false]⟩ (by kernel_rfl) trivial ?_
        cases hv103
        exact WO_nil rfl ⟨rfl, rfl⟩
      · refine WO_step 6 [0, 1] [0, 1, 21] (True ∧ (True ∧ (True ∧ True))) ⟨[(0, .one (.e (.sl 0 0 x1.length))), (1, .one (.e (.sl 1 0 x2.length))), (21, B (!decide (((x1.length : Nat) : Int) = ((x2.length : Nat) : Int))))], [.row .nod x1 false, .row .nod x2 false]⟩ (by kernel_rfl) ⟨trivial, trivial, trivial, trivial⟩ ?_
        cases hv103
        exact WO_nil rfl ⟨rfl, rfl⟩
  · refine thenS_n ?_
    refine iteO_e h (fun hb109 h => W_true rfl hb109 ?_) (fun hb109 h => W_false rfl hb109 ?_)
    · refine W_seq ?_
      refine W_region ?_
      refine WO_step 1 [0, 1] [4] True ⟨[(4, B false)], [.row .nod x1 false, .row .nod x2 false]⟩ (by kernel_rfl) trivial ?_
      refine WO_nil rfl ?_
      refine thenS_n ?_
      refine W_ret ?_
      refine thenS_r ?_
      cases h
      exact ⟨[0, 1], True, by kernel_rfl, trivial⟩
    · refine W_sub [0, 1] [0, 1] (st' := ⟨[(0, .one (.e (.sl 0 0 x1.length))), (1, .one (.e (.sl 1 0 x2.length)))], [.row .nod x1 false, .row .nod x2 false]⟩) (by kernel_rfl) ?_
      refine W_skip ?_
      refine thenS_n ?_
      refine W_seq ?_
      refine W_seq ?_
      refine W_region ?_
      refine WO_step 3 [0, 1] [0, 1, 23, 24] (True ∧ True) ⟨[(0, .one (.e (.sl 0 0 x1.length))), (1, .one (.e (.sl 1 0 x2.length))), (23, I ((x1.length : Nat) : Int)), (24, I 0)], [.row .nod x1 false, .row .nod x2 false]⟩ (by kernel_rfl) ⟨trivial, trivial⟩ ?_
      refine WO_nil rfl ?_
      refine thenS_n ?_
      refine W_block ?_
      refine W_loop ?_
      refine bindO_e h (fun v188 hv188 h => ?_)
      refine WL_cut (impl_SameTree_L1_ok w X θ x1 x2 v188 n 0 hv188) ?_
      rcases v188 with _ | _
      · rintro _ _ ⟨rfl, rfl⟩
        refine blockS_r ?_
        refine thenS_r ?_
        cases h
        exact ⟨[0, 1], True, by kernel_rfl, trivial⟩
      · rintro _ _ ⟨rfl, rfl⟩
        refine blockS_y ?_
        refine thenS_n ?_
        refine W_seq ?_
        refine W_region ?_
        refine WO_step 1 [0, 1] [4] True ⟨[(4, B true)], [.row .nod x1 false, .row .nod x2 false]⟩ (by kernel_rfl) trivial ?_
        refine WO_nil rfl ?_
        refine thenS_n ?_
        refine W_ret ?_
        cases h
        exact ⟨[0, 1], True, by kernel_rfl, trivial⟩

/- laws.FnEditsBetweenBack -/
def laws_FnEditsBetweenBack (n : Nat) (x1 : List Int) : Option (Bool) :=
 iteO (decide (1048576 < ((x1.length : Nat) : Int)))
 (some true)
 (bindO (spec_DrawEditsBetween n x1) fun (x65, x66, k67, k68, k69, k70) =>
 bindO (impl_EditsBetween n ((x65.drop k67).take k68) ((x66.drop k69).take k70)) fun x72 =>
 bindO (spec_EditsBetween n ((x65.drop k67).take k68) ((x66.drop k69).take k70)) fun x74 =>
 bindO (laws_equalEdits n x72 x74) fun b76 =>
 bindO (iteO (!b76)
 (some true)
 (bindO (impl_ValidTree n ((x65.drop k67).take k68)) fun b87 =>
 iteO (!b87)
 (some true)
 (bindO (impl_ValidTree n ((x66.drop k69).take k70)) fun b90 =>
 some (!b90)))) fun b84 =>
 iteO b84
 (bindO (spec_EditsBetween n ((x65.drop k67).take k68) ((x66.drop k69).take k70)) fun x98 =>
 bindO (laws_equalEdits n x72 x98) fun b100 =>
 some b100)
 (bindO (impl_ApplyEdits n ((x65.drop k67).take k68) x72) fun (x102, b103) =>
 bindO (impl_EditsBetween n x102 ((x65.drop k67).take k68)) fun x105 =>
 bindO (impl_ApplyEdits n x102 x105) fun (x107, b108) =>
 bindO (iteO b103
 (iteO b108
 (bindO (impl_SameTree n x107 ((x65.drop k67).take k68)) fun b118 =>
 some b118)
 (some false))
 (some false)) fun b114 =>
 some b114))

theorem laws_FnEditsBetweenBack_ok (n : Nat) (x1 : List Int) (b62 : Bool) (h : laws_FnEditsBetweenBack n x1 = some b62) : FOk EE 5 [.one (.e (.sl 0 0 x1.length))] [.row .u8 x1 false] (B b62) [.row .u8 x1 false] := by
  unfold laws_FnEditsBetweenBack at h
  refine FOk_of_W 65 1 Try.func5 rfl rfl (Nat.le_of_ble_eq_true rfl) rfl (fun w X θ => ?_)
  refine W_seq ?_
  refine W_region ?_
  refine WO_step 1 [0] [0] True ⟨[(0, .one (.e (.sl 0 0 x1.length)))], [.row .u8 x1 false]⟩ (by kernel_rfl) trivial ?_
  refine WO_nil rfl ?_
  refine thenS_n ?_
  refine W_seq ?_
  refine W_seq ?_
  refine W_region ?_
  refine WO_step 3 [0] [0, 12] (True ∧ (True ∧ True)) ⟨[(0, .one (.e (.sl 0 0 x1.length))), (12, B (decide (1048576 < ((x1.length : Nat) : Int))))], [.row .u8 x1 false]⟩ (by kernel_rfl) ⟨trivial, trivial, trivial⟩ ?_
  refine WO_nil rfl ?_
  refine thenS_n ?_
  refine iteO_e h (fun hb64 h => W_true rfl hb64 ?_) (fun hb64 h => W_false rfl hb64 ?_)
  · refine W_seq ?_
    refine W_region ?_
    refine WO_step 1 [0] [2] True ⟨[(2, B true)], [.row .u8 x1 false]⟩ (by kernel_rfl) trivial ?_
    refine WO_nil rfl ?_
    refine thenS_n ?_
    refine W_ret ?_
    refine thenS_r ?_
    cases h
    exact ⟨[0], True, by kernel_rfl, trivial⟩
  · refine W_sub [0] [0] (st' := ⟨[(0, .one (.e (.sl 0 0 x1.length)))], [.row .u8 x1 false]⟩) (by kernel_rfl) ?_
    refine W_skip ?_
    refine thenS_n ?_
    refine W_seq ?_
    refine W_region ?_
    refine WO_step 1 [0] [14] True ⟨[(14, .one (.e (.sl 0 0 x1.length)))], [.row .u8 x1 false]⟩ (by kernel_rfl) trivial ?_
    refine bindO_e h (fun v122 hc71 h => ?_)
    obtain ⟨x65, x66, k67, k68, k69, k70⟩ := v122
    refine WO_call [.ro 0] Try.f15 rfl rfl rfl (by kernel_rfl) Try.func15 rfl (by kernel_rfl) (spec_DrawEditsBetween_ok n x1 x65 x66 k67 k68 k69 k70 hc71) (And.intro (And.intro rfl rfl) (trivial)) rfl ?_
    refine WO_step 5 [0, 1, 2] [3, 4] True ⟨[(3, .one (.e (.sl 1 k67 k68))), (4, .one (.e (.sl 2 k69 k70)))], [.row .u8 x1 false, .row .nod x65 true, .row .nod x66 true]⟩ (by kernel_rfl) trivial ?_
    refine WO_nil rfl ?_
    refine thenS_n ?_
    refine W_seq ?_
    refine W_region ?_
    refine WO_step 2 [0, 1, 2] [3, 4, 18, 19] True ⟨[(3, .one (.e (.sl 1 k67 k68))), (4, .one (.e (.sl 2 k69 k70))), (18, .one (.e (.sl 1 k67 k68))), (19, .one (.e (.sl 2 k69 k70)))], [.row .u8 x1 false, .row .nod x65 true, .row .nod x66 true]⟩ (by kernel_rfl) trivial ?_
    refine bindO_e h (fun x72 hc73 h => ?_)
    refine WO_call [.view 0, .view 1] Try.f9 rfl rfl rfl (by kernel_rfl) Try.func9 rfl (by kernel_rfl) (impl_EditsBetween_ok n ((x65.drop k67).take k68) ((x66.drop k69).take k70) x72 hc73) (trivial) rfl ?_
    refine WO_step 1 [0, 1, 2, 3] [3, 4, 5] True ⟨[(3, .one (.e (.sl 1 k67 k68))), (4, .one (.e (.sl 2 k69 k70))), (5, .one (.e (.sl 3 0 x72.length)))], [.row .u8 x1 false, .row .nod x65 true, .row .nod x66 true, .row .edt x72 true]⟩ (by kernel_rfl) trivial ?_
    refine WO_nil rfl ?_
    refine thenS_n ?_
    refine W_seq ?_
    refine W_seq ?_
    refine W_region ?_
    refine WO_step 3 [0, 1, 2, 3] [3, 4, 5, 21, 22, 23] True ⟨[(3, .one (.e (.sl 1 k67 k68))), (4, .one (.e (.sl 2 k69 k70))), (5, .one (.e (.sl 3 0 x72.length))), (21, .one (.e (.sl 3 0 x72.length))), (22, .one (.e (.sl 1 k67 k68))), (23, .one (.e (.sl 2 k69 k70)))], [.row .u8 x1 false, .row .nod x65 true, .row .nod x66 true, .row .edt x72 true]⟩ (by kernel_rfl) trivial ?_
    refine bindO_e h (fun x74 hc75 h => ?_)
    refine WO_call [.view 0, .view 1] Try.f7 rfl rfl rfl (by kernel_rfl) Try.func7 rfl (by kernel_rfl) (spec_EditsBetween_ok n ((x65.drop k67).take k68) ((x66.drop k69).take k70) x74 hc75) (trivial) rfl ?_
    refine WO_sub [0, 1, 2, 3, 4] [3, 4, 5, 21, 24] (st' := ⟨[(3, .one (.e (.sl 1 k67 k68))), (4, .one (.e (.sl 2 k69 k70))), (5, .one (.e (.sl 3 0 x72.length))), (21, .one (.e (.sl 3 0 x72.length))), (24, .one (.e (.sl 4 0 x74.length)))], [.row .u8 x1 false, .row .nod x65 true, .row .nod x66 true, .row .edt x72 true, .row .edt x74 true]⟩) (by kernel_rfl) ?_
    refine bindO_e h (fun b76 hc77 h => ?_)
    refine WO_call [.ro 3, .ro 4] Try.f16 rfl rfl rfl (by kernel_rfl) Try.func16 rfl (by kernel_rfl) (laws_equalEdits_ok n x72 x74 b76 hc77) (And.intro (And.intro rfl rfl) (And.intro (And.intro rfl rfl) (trivial))) rfl ?_
    refine WO_step 2 [0, 1, 2, 3] [3, 4, 5, 27] True ⟨[(3, .one (.e (.sl 1 k67 k68))), (4, .one (.e (.sl 2 k69 k70))), (5, .one (.e (.sl 3 0 x72.length))), (27, B (!b76))], [.row .u8 x1 false, .row .nod x65 true, .row .nod x66 true, .row .edt x72 true]⟩ (by kernel_rfl) trivial ?_
    refine bindO_e h (fun b84 hv85 h => ?_)
    refine WO_thru ⟨[(3, .one (.e (.sl 1 k67 k68))), (4, .one (.e (.sl 2 k69 k70))), (5, .one (.e (.sl 3 0 x72.length))), (36, B b84)], [.row .u8 x1 false, .row .nod x65 true, .row .nod x66 true, .row .edt x72 true]⟩ ?_ ?_
    · refine iteO_e hv85 (fun hb86 hv85 => WO_known 27 true rfl hb86 ?_) (fun hb86 hv85 => WO_known 27 false rfl hb86 ?_)
      · refine WO_step 9 [0, 1, 2, 3] [3, 4, 5, 36] True ⟨[(3, .one (.e (.sl 1 k67 k68))), (4, .one (.e (.sl 2 k69 k70))), (5, .one (.e (.sl 3 0 x72.length))), (36, B true)], [.row .u8 x1 false, .row .nod x65 true, .row .nod x66 true, .row .edt x72 true]⟩ (by kernel_rfl) trivial ?_
        cases hv85
        exact WO_nil rfl ⟨rfl, rfl⟩
      · refine WO_step 1 [0, 1, 2, 3] [3, 4, 5, 27, 28] True ⟨[(3, .one (.e (.sl 1 k67 k68))), (4, .one (.e (.sl 2 k69 k70))), (5, .one (.e (.sl 3 0 x72.length))), (27, B false), (28, .one (.e (.sl 1 k67 k68)))], [.row .u8 x1 false, .row .nod x65 true, .row .nod x66 true, .row .edt x72 true]⟩ (by kernel_rfl) trivial ?_
        refine bindO_e hv85 (fun b87 hc88 hv85 => ?_)
        refine WO_call [.view 0] Try.f17 rfl rfl rfl (by kernel_rfl) Try.func17 rfl (by kernel_rfl) (impl_ValidTree_ok n ((x65.drop k67).take k68) b87 hc88) (trivial) rfl ?_
        refine WO_step 3 [0, 1, 2, 3] [3, 4, 5, 32] True ⟨[(3, .one (.e (.sl 1 k67 k68))), (4, .one (.e (.sl 2 k69 k70))), (5, .one (.e (.sl 3 0 x72.length))), (32, B (!b87))], [.row .u8 x1 false, .row .nod x65 true, .row .nod x66 true, .row .edt x72 true]⟩ (by kernel_rfl) trivial ?_
        refine iteO_e hv85 (fun hb89 hv85 => WO_known 32 true rfl hb89 ?_) (fun hb89 hv85 => WO_known 32 false rfl hb89 ?_)
        · refine WO_step 4 [0, 1, 2, 3] [3, 4, 5, 36] True ⟨[(3, .one (.e (.sl 1 k67 k68))), (4, .one (.e (.sl 2 k69 k70))), (5, .one (.e (.sl 3 0 x72.length))), (36, B true)], [.row .u8 x1 false, .row .nod x65 true, .row .nod x66 true, .row .edt x72 true]⟩ (by kernel_rfl) trivial ?_
          cases hv85
          exact WO_nil rfl ⟨rfl, rfl⟩
        · refine WO_step 1 [0, 1, 2, 3] [3, 4, 5, 32, 33] True ⟨[(3, .one (.e (.sl 1 k67 k68))), (4, .one (.e (.sl 2 k69 k70))), (5, .one (.e (.sl 3 0 x72.length))), (32, B false), (33, .one (.e (.sl 2 k69 k70)))], [.row .u8 x1 false, .row .nod x65 true, .row .nod x66 true, .row .edt x72 true]⟩ (by kernel_rfl) trivial ?_
          refine bindO_e hv85 (fun b90 hc91 hv85 => ?_)
          refine WO_call [.view 0] Try.f17 rfl rfl rfl (by kernel_rfl) Try.func17 rfl (by kernel_rfl) (impl_ValidTree_ok n ((x66.drop k69).take k70) b90 hc91) (trivial) rfl ?_
          refine WO_step 2 [0, 1, 2, 3] [3, 4, 5, 36] True ⟨[(3, .one (.e (.sl 1 k67 k68))), (4, .one (.e (.sl 2 k69 k70))), (5, .one (.e (.sl 3 0 x72.length))), (36, B (!b90))], [.row .u8 x1 false, .row .nod x65 true, .row .nod x66 true, .row .edt x72 true]⟩ (by kernel_rfl) trivial ?_
          cases hv85
          exact WO_nil rfl ⟨rfl, rfl⟩
    · refine thenS_n ?_
      refine iteO_e h (fun hb97 h => W_true rfl hb97 ?_) (fun hb97 h => W_false rfl hb97 ?_)
      · refine W_seq ?_
        refine W_region ?_
        refine WO_step 3 [0, 3, 1, 2] [37, 38, 39] True ⟨[(37, .one (.e (.sl 1 0 x72.length))), (38, .one (.e (.sl 2 k67 k68))), (39, .one (.e (.sl 3 k69 k70)))], [.row .u8 x1 false, .row .edt x72 true, .row .nod x65 true, .row .nod x66 true]⟩ (by kernel_rfl) trivial ?_
        refine bindO_e h (fun x98 hc99 h => ?_)
        refine WO_call [.view 0, .view 1] Try.f7 rfl rfl rfl (by kernel_rfl) Try.func7 rfl (by kernel_rfl) (spec_EditsBetween_ok n ((x65.drop k67).take k68) ((x66.drop k69).take k70) x98 hc99) (trivial) rfl ?_
        refine WO_sub [0, 1, 4] [37, 40] (st' := ⟨[(37, .one (.e (.sl 1 0 x72.length))), (40, .one (.e (.sl 2 0 x98.length)))], [.row .u8 x1 false, .row .edt x72 true, .row .edt x98 true]⟩) (by kernel_rfl) ?_
        refine bindO_e h (fun b100 hc101 h => ?_)
        refine WO_call [.ro 1, .ro 2] Try.f16 rfl rfl rfl (by kernel_rfl) Try.func16 rfl (by kernel_rfl) (laws_equalEdits_ok n x72 x98 b100 hc101) (And.intro (And.intro rfl rfl) (And.intro (And.intro rfl rfl) (trivial))) rfl ?_
        refine WO_step 1 [0] [2] True ⟨[(2, B b100)], [.row .u8 x1 false]⟩ (by kernel_rfl) trivial ?_
        refine WO_nil rfl ?_
        refine thenS_n ?_
        refine W_ret ?_
        refine thenS_r ?_
        cases h
        exact ⟨[0], True, by kernel_rfl, trivial⟩
      · refine W_sub [0, 1, 3] [3, 5] (st' := ⟨[(3, .one (.e (.sl 1 k67 k68))), (5, .one (.e (.sl 2 0 x72.length)))], [.row .u8 x1 false, .row .nod x65 true, .row .edt x72 true]⟩) (by kernel_rfl) ?_
        refine W_skip ?_
        refine thenS_n ?_
        refine W_seq ?_
        refine W_region ?_
        refine WO_step 2 [0, 1, 2] [3, 43, 44] True ⟨[(3, .one (.e (.sl 1 k67 k68))), (43, .one (.e (.sl 1 k67 k68))), (44, .one (.e (.sl 2 0 x72.length)))], [.row .u8 x1 false, .row .nod x65 true, .row .edt x72 true]⟩ (by kernel_rfl) trivial ?_
        refine bindO_e h (fun v121 hc104 h => ?_)
        obtain ⟨x102, b103⟩ := v121
        refine WO_call [.view 0, .ro 2] Try.f18 rfl rfl rfl (by kernel_rfl) Try.func18 rfl (by kernel_rfl) (impl_ApplyEdits_ok n ((x65.drop k67).take k68) x72 x102 b103 hc104) (And.intro (And.intro rfl rfl) (trivial)) rfl ?_
        refine WO_step 5 [0, 1, 3] [3, 6, 7] True ⟨[(3, .one (.e (.sl 1 k67 k68))), (6, .one (.e (.sl 2 0 x102.length))), (7, B b103)], [.row .u8 x1 false, .row .nod x65 true, .row .nod x102 true]⟩ (by kernel_rfl) trivial ?_
        refine WO_nil rfl ?_
        refine thenS_n ?_
        refine W_seq ?_
        refine W_region ?_
        refine WO_step 3 [0, 1, 2] [3, 7, 49, 50, 51] True ⟨[(3, .one (.e (.sl 1 k67 k68))), (7, B b103), (49, .one (.e (.sl 2 0 x102.length))), (50, .one (.e (.sl 2 0 x102.length))), (51, .one (.e (.sl 1 k67 k68)))], [.row .u8 x1 false, .row .nod x65 true, .row .nod x102 true]⟩ (by kernel_rfl) trivial ?_
        refine bindO_e h (fun x105 hc106 h => ?_)
        refine WO_call [.ro 2, .view 1] Try.f9 rfl rfl rfl (by kernel_rfl) Try.func9 rfl (by kernel_rfl) (impl_EditsBetween_ok n x102 ((x65.drop k67).take k68) x105 hc106) (And.intro (And.intro rfl rfl) (trivial)) rfl ?_
        refine WO_sub [0, 1, 2, 3] [3, 7, 49, 52] (st' := ⟨[(3, .one (.e (.sl 1 k67 k68))), (7, B b103), (49, .one (.e (.sl 2 0 x102.length))), (52, .one (.e (.sl 3 0 x105.length)))], [.row .u8 x1 false, .row .nod x65 true, .row .nod x102 true, .row .edt x105 true]⟩) (by kernel_rfl) ?_
        refine bindO_e h (fun v120 hc109 h => ?_)
        obtain ⟨x107, b108⟩ := v120
        refine WO_call [.ro 2, .ro 3] Try.f18 rfl rfl rfl (by kernel_rfl) Try.func18 rfl (by kernel_rfl) (impl_ApplyEdits_ok n x102 x105 x107 b108 hc109) (And.intro (And.intro rfl rfl) (And.intro (And.intro rfl rfl) (trivial))) rfl ?_
        refine WO_step 5 [0, 1, 4] [3, 7, 8, 9] True ⟨[(3, .one (.e (.sl 1 k67 k68))), (7, B b103), (8, .one (.e (.sl 2 0 x107.length))), (9, B b108)], [.row .u8 x1 false, .row .nod x65 true, .row .nod x107 true]⟩ (by kernel_rfl) trivial ?_
        refine WO_nil rfl ?_
        refine thenS_n ?_
        refine W_seq ?_
        refine W_region ?_
        refine WO_step 2 [0, 1, 2] [3, 8, 9, 57] True ⟨[(3, .one (.e (.sl 1 k67 k68))), (8, .one (.e (.sl 2 0 x107.length))), (9, B b108), (57, B b103)], [.row .u8 x1 false, .row .nod x65 true, .row .nod x107 true]⟩ (by kernel_rfl) trivial ?_
        refine bindO_e h (fun b114 hv115 h => ?_)
        refine WO_thru ⟨[(2, B b114)], [.row .u8 x1 false]⟩ ?_ ?_
        · refine iteO_e hv115 (fun hb116 hv115 => WO_known 57 true rfl hb116 ?_) (fun hb116 hv115 => WO_known 57 false rfl hb116 ?_)
          · refine WO_step 3 [0, 1, 2] [3, 8, 60] True ⟨[(3, .one (.e (.sl 1 k67 k68))), (8, .one (.e (.sl 2 0 x107.length))), (60, B b108)], [.row .u8 x1 false, .row .nod x65 true, .row .nod x107 true]⟩ (by kernel_rfl) trivial ?_
            refine iteO_e hv115 (fun hb117 hv115 => WO_known 60 true rfl hb117 ?_) (fun hb117 hv115 => WO_known 60 false rfl hb117 ?_)
            · refine WO_step 2 [0, 2, 1] [60, 61, 62] True ⟨[(60, B true), (61, .one (.e (.sl 1 0 x107.length))), (62, .one (.e (.sl 2 k67 k68)))], [.row .u8 x1 false, .row .nod x107 true, .row .nod x65 true]⟩ (by kernel_rfl) trivial ?_
              refine bindO_e hv115 (fun b118 hc119 hv115 => ?_)
              refine WO_call [.ro 1, .view 1] Try.f19 rfl rfl rfl (by kernel_rfl) Try.func19 rfl (by kernel_rfl) (impl_SameTree_ok n x107 ((x65.drop k67).take k68) b118 hc119) (And.intro (And.intro rfl rfl) (trivial)) rfl ?_
              refine WO_step 2 [0] [2] True ⟨[(2, B b118)], [.row .u8 x1 false]⟩ (by kernel_rfl) trivial ?_
              cases hv115
              exact WO_nil rfl ⟨rfl, rfl⟩
            · refine WO_step 5 [0] [2] True ⟨[(2, B false)], [.row .u8 x1 false]⟩ (by kernel_rfl) trivial ?_
              cases hv115
              exact WO_nil rfl ⟨rfl, rfl⟩
          · refine WO_step 8 [0] [2] True ⟨[(2, B false)], [.row .u8 x1 false]⟩ (by kernel_rfl) trivial ?_
            cases hv115
            exact WO_nil rfl ⟨rfl, rfl⟩
        · refine thenS_n ?_
          refine W_ret ?_
          cases h
          exact ⟨[0], True, by kernel_rfl, trivial⟩

end Go.Proofs.Ytghdgncfcfdlfaa
